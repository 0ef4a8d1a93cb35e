/- The functions of the seat, as the evaluator tells them: the texts alone. Printed by genW.py. -/
import Derived.Test.YtakjmminaolfnaaEvT
namespace Go.Proofs.Ytakjmminaolfnaa.W
open Go.Ev Go.RowKit
def sat_Clamp (_N : Nat) (a0 : Int) (a1 : Int) (a2 : Int) : Option Int :=
  some (if (if a2 < a0 then a2 else a0) > a1 then (if a2 < a0 then a2 else a0) else a1)

def meter_size (N : Nat) (a0 : (List Int)) (a1 : Int) : Option Int :=
  bif ((decide ((0 : Int) ≤ a1)) && (decide (a1 < (((a0).length : Nat) : Int)))) then
    (sat_Clamp N (a0.getD (a1 : Int).toNat 0) 1 65536).bind fun r0 =>
    some r0
  else
    none
def sat_end (_N : Nat) (a0 : Bool) : Option Int :=
  bif a0 then
    some (-9223372036854775808)
  else some 9223372036854775807
def sat_Add (N : Nat) (a0 : Int) (a1 : Int) : Option Int :=
  bif (decide ((bits .and .i64 (bits .xor .i64 a0 (IntKind.wrap .i64 (a0 + a1))) (bits .xor .i64 a1 (IntKind.wrap .i64 (a0 + a1)))) < 0)) then
    (sat_end N (decide (a0 < 0))).bind fun r0 =>
    some r0
  else some (IntKind.wrap .i64 (a0 + a1))

def meter_count (N : Nat) (x : ((Nat × ((Int × (Int × (Int × (Int × (Int × Int))))) × (Int × Unit))) × ((List (Int × (Int × (Int × (Int × (Int × (Int × (Int × (Int × (Int × (Int × (Int × Int)))))))))))) × Unit))) : Option (Unit × ((List (Int × (Int × (Int × (Int × (Int × (Int × (Int × (Int × (Int × (Int × (Int × Int)))))))))))) × Unit)) :=
  bif (x.1.2.1.2.1 == 1) then
    some ((), (metSet x.2.1 x.1.1 0 fun v => IntKind.wrap .i64 (v + 1), ()))
  else
    bif (x.1.2.1.2.1 == 3) then
      bif (x.1.2.1.2.2.2.2.1 == 3) then
        (sat_Add N (metGet (metSet (metSet (metSet (metSet x.2.1 x.1.1 1 fun v => IntKind.wrap .i64 (v + 1)) x.1.1 9 fun v => IntKind.wrap .i64 (v + x.1.2.2.1)) x.1.1 2 fun v => IntKind.wrap .i64 (v + 1)) x.1.1 10 fun v => (imx v x.1.2.1.2.2.2.2.2)) x.1.1 11) x.1.2.1.2.2.2.2.2).bind fun r0 =>
        some ((), (metSet (metSet (metSet (metSet (metSet x.2.1 x.1.1 1 fun v => IntKind.wrap .i64 (v + 1)) x.1.1 9 fun v => IntKind.wrap .i64 (v + x.1.2.2.1)) x.1.1 2 fun v => IntKind.wrap .i64 (v + 1)) x.1.1 10 fun v => (imx v x.1.2.1.2.2.2.2.2)) x.1.1 11 fun _ => r0, ()))
      else
        (sat_Add N (metGet (metSet (metSet (metSet x.2.1 x.1.1 1 fun v => IntKind.wrap .i64 (v + 1)) x.1.1 9 fun v => IntKind.wrap .i64 (v + x.1.2.2.1)) x.1.1 10 fun v => (imx v x.1.2.1.2.2.2.2.2)) x.1.1 11) x.1.2.1.2.2.2.2.2).bind fun r1 =>
        some ((), (metSet (metSet (metSet (metSet x.2.1 x.1.1 1 fun v => IntKind.wrap .i64 (v + 1)) x.1.1 9 fun v => IntKind.wrap .i64 (v + x.1.2.2.1)) x.1.1 10 fun v => (imx v x.1.2.1.2.2.2.2.2)) x.1.1 11 fun _ => r1, ()))
    else
      bif (x.1.2.1.2.1 == 2) then
        bif (x.1.2.1.2.2.2.2.2 == 1) then
          some ((), (metSet x.2.1 x.1.1 3 fun v => IntKind.wrap .i64 (v + 1), ()))
        else
          some ((), (metSet x.2.1 x.1.1 4 fun v => IntKind.wrap .i64 (v + 1), ()))
      else
        bif (x.1.2.1.2.1 == 6) then
          some ((), (metSet x.2.1 x.1.1 5 fun v => IntKind.wrap .i64 (v + 1), ()))
        else
          bif (x.1.2.1.2.1 == 5) then
            some ((), (metSet x.2.1 x.1.1 6 fun v => IntKind.wrap .i64 (v + 1), ()))
          else
            bif (x.1.2.1.2.1 == 4) then
              some ((), (metSet x.2.1 x.1.1 7 fun v => IntKind.wrap .i64 (v + 1), ()))
            else
              bif (x.1.2.1.2.1 == 7) then
                some ((), (metSet x.2.1 x.1.1 8 fun v => IntKind.wrap .i64 (v + 1), ()))
              else
                some ((), (x.2.1, ()))

def meter_Flows_R4 (N : Nat) (it : (Int × (Int × (Int × (Int × (Int × Int)))))) (F : (Unit × (Unit × (Unit × (Unit × ((Int × Unit) × ((List Int) × ((List (Int × (Int × (Int × (Int × (Int × (Int × (Int × (Int × (Int × (Int × (Int × Int)))))))))))) × ((List (Int × (Int × (Int × (Int × (Int × Int)))))) × Unit)))))))) → Option (Unit × (Unit × (Unit × (Unit × ((Int × Unit) × ((List Int) × ((List (Int × (Int × (Int × (Int × (Int × (Int × (Int × (Int × (Int × (Int × (Int × Int)))))))))))) × ((List (Int × (Int × (Int × (Int × (Int × Int)))))) × Unit))))))))) (x : (Unit × (Unit × (Unit × (Unit × ((Int × Unit) × ((List Int) × ((List (Int × (Int × (Int × (Int × (Int × (Int × (Int × (Int × (Int × (Int × (Int × Int)))))))))))) × ((List (Int × (Int × (Int × (Int × (Int × Int)))))) × Unit))))))))) : Option (Unit × (Unit × (Unit × (Unit × ((Int × Unit) × ((List Int) × ((List (Int × (Int × (Int × (Int × (Int × (Int × (Int × (Int × (Int × (Int × (Int × Int)))))))))))) × ((List (Int × (Int × (Int × (Int × (Int × Int)))))) × Unit)))))))) :=
  bif ((decide ((0 : Int) ≤ it.2.2.1)) && (decide (it.2.2.1 < (((x.2.2.2.2.2.2.1).length : Nat) : Int)))) then
    (meter_size N x.2.2.2.2.2.1 it.2.2.1).bind fun r0 =>
    (meter_count N (((it.2.2.1 : Int).toNat, (it, (r0, ()))), (x.2.2.2.2.2.2.1, ()))).bind fun r1 =>
    F ((), ((), ((), ((), ((x.2.2.2.2.1.1, ()), (x.2.2.2.2.2.1, (r1.2.1, (x.2.2.2.2.2.2.2.1, ()))))))))
  else
    none

def meter_Flows (N : Nat) (a0 : (List (Int × (Int × (Int × (Int × (Int × Int))))))) (a1 : (List Int)) : Option (List (Int × (Int × (Int × (Int × (Int × (Int × (Int × (Int × (Int × (Int × (Int × Int)))))))))))) :=
  bif ((decide ((0 : Int) ≤ (((a1).length : Nat) : Int))) && (((decide ((((a1).length : Nat) : Int) = (((a1).length : Nat) : Int))) && (decide (((((a1).length : Nat) : Int) * 96) ≤ 140737488355328))) && (decide ((((a1).length : Nat) : Int) ≤ 140737488355328)))) then
    (bif (decide ((a0).length ≤ 1000000000)) then some (metOf a0 (((a1).length : Nat) : Int)) else none).bind fun r0 =>
    (itR (meter_Flows_R4 N) r0 ((), ((), ((), ((), (((((a1).length : Nat) : Int), ()), (a1, ((List.replicate ((((a1).length : Nat) : Int) : Int).toNat ((0, (0, (0, (0, (0, (0, (0, (0, (0, (0, (0, 0))))))))))) : (Int × (Int × (Int × (Int × (Int × (Int × (Int × (Int × (Int × (Int × (Int × Int))))))))))))), (a0, ()))))))))).bind fun r1 =>
    some r1.2.2.2.2.2.2.1
  else
    none

def leatref44_Of_L3 (_N : Nat) (F : ((Int × (Int × Unit)) × ((List (Int × (Int × (Int × (Int × (Int × Int)))))) × ((List (Int × (Int × (Int × (Int × (Int × Int)))))) × Unit))) → Option (Unit × ((List (Int × (Int × (Int × (Int × (Int × Int)))))) × Unit))) (x : ((Int × (Int × Unit)) × ((List (Int × (Int × (Int × (Int × (Int × Int)))))) × ((List (Int × (Int × (Int × (Int × (Int × Int)))))) × Unit)))) : Option (Unit × ((List (Int × (Int × (Int × (Int × (Int × Int)))))) × Unit)) :=
  bif (decide (x.1.2.1 < (((x.2.1).length : Nat) : Int))) then
    bif ((decide ((0 : Int) ≤ x.1.2.1)) && (decide (x.1.2.1 < (((x.2.1).length : Nat) : Int)))) then
      bif ((! ((x.2.1.getD (x.1.2.1 : Int).toNat (0, (0, (0, (0, (0, 0)))))).2.1 == 8)) == true) then
        bif ((decide ((0 : Int) ≤ x.1.2.1)) && (decide (x.1.2.1 < (((x.2.1).length : Nat) : Int)))) then
          bif ((decide ((0 : Int) ≤ (x.2.1.getD (x.1.2.1 : Int).toNat (0, (0, (0, (0, (0, 0)))))).2.2.1)) == true) then
            bif ((decide ((0 : Int) ≤ x.1.2.1)) && (decide (x.1.2.1 < (((x.2.1).length : Nat) : Int)))) then
              bif (decide ((x.2.1.getD (x.1.2.1 : Int).toNat (0, (0, (0, (0, (0, 0)))))).2.2.1 < x.1.1)) then
                bif ((decide ((0 : Int) ≤ x.1.2.1)) && (decide (x.1.2.1 < (((x.2.1).length : Nat) : Int)))) then
                  bif (decide ((((x.2.2.1).length + (([(x.2.1.getD (x.1.2.1 : Int).toNat (0, (0, (0, (0, (0, 0))))))] : List (Int × (Int × (Int × (Int × (Int × Int))))))).length) * 48) ≤ 140737488355328)) then
                    F ((x.1.1, ((IntKind.wrap .i64 (x.1.2.1 + 1)), ())), (x.2.1, ((x.2.2.1 ++ ([(x.2.1.getD (x.1.2.1 : Int).toNat (0, (0, (0, (0, (0, 0))))))] : List (Int × (Int × (Int × (Int × (Int × Int))))))), ())))
                  else
                    none
                else
                  none
              else
                F ((x.1.1, ((IntKind.wrap .i64 (x.1.2.1 + 1)), ())), (x.2.1, (x.2.2.1, ())))
            else
              none
          else
            F ((x.1.1, ((IntKind.wrap .i64 (x.1.2.1 + 1)), ())), (x.2.1, (x.2.2.1, ())))
        else
          none
      else
        F ((x.1.1, ((IntKind.wrap .i64 (x.1.2.1 + 1)), ())), (x.2.1, (x.2.2.1, ())))
    else
      none
  else
    some ((), (x.2.2.1, ()))

def leatref44_Of (N : Nat) (a0 : (List (Int × (Int × (Int × (Int × (Int × Int))))))) (a1 : Int) : Option (List (Int × (Int × (Int × (Int × (Int × Int)))))) :=
  (iter (leatref44_Of_L3 N) N ((a1, (0, ())), (a0, (([] : List (Int × (Int × (Int × (Int × (Int × Int)))))), ())))).bind fun r0 =>
  some r0.2.1

def leatref44_Size (_N : Nat) (a0 : (List Int)) (a1 : Int) : Option Int :=
  bif ((decide ((0 : Int) ≤ a1)) && (decide (a1 < (((a0).length : Nat) : Int)))) then
    some (imn (imx (a0.getD (a1 : Int).toNat 0) 1) 65536)
  else
    none

def leatref44_number_L3 (_N : Nat) (F : ((Int × (Int × (Int × (Int × Unit)))) × ((List (Int × (Int × (Int × (Int × (Int × Int)))))) × Unit)) → Option ((Int × Unit) × Unit)) (x : ((Int × (Int × (Int × (Int × Unit)))) × ((List (Int × (Int × (Int × (Int × (Int × Int)))))) × Unit))) : Option ((Int × Unit) × Unit) :=
  bif (decide (x.1.2.2.2.1 < (((x.2.1).length : Nat) : Int))) then
    bif ((decide ((0 : Int) ≤ x.1.2.2.2.1)) && (decide (x.1.2.2.2.1 < (((x.2.1).length : Nat) : Int)))) then
      bif (((x.2.1.getD (x.1.2.2.2.1 : Int).toNat (0, (0, (0, (0, (0, 0)))))).2.2.1 == x.1.1) == true) then
        bif ((decide ((0 : Int) ≤ x.1.2.2.2.1)) && (decide (x.1.2.2.2.1 < (((x.2.1).length : Nat) : Int)))) then
          bif ((x.2.1.getD (x.1.2.2.2.1 : Int).toNat (0, (0, (0, (0, (0, 0)))))).2.1 == x.1.2.1) then
            F ((x.1.1, (x.1.2.1, ((IntKind.wrap .i64 (x.1.2.2.1 + 1)), ((IntKind.wrap .i64 (x.1.2.2.2.1 + 1)), ())))), (x.2.1, ()))
          else
            F ((x.1.1, (x.1.2.1, (x.1.2.2.1, ((IntKind.wrap .i64 (x.1.2.2.2.1 + 1)), ())))), (x.2.1, ()))
        else
          none
      else
        F ((x.1.1, (x.1.2.1, (x.1.2.2.1, ((IntKind.wrap .i64 (x.1.2.2.2.1 + 1)), ())))), (x.2.1, ()))
    else
      none
  else
    some ((x.1.2.2.1, ()), ())

def leatref44_number (N : Nat) (a0 : (List (Int × (Int × (Int × (Int × (Int × Int))))))) (a1 : Int) (a2 : Int) : Option Int :=
  (iter (leatref44_number_L3 N) N ((a1, (a2, (0, (0, ())))), (a0, ()))).bind fun r0 =>
  some r0.1.1
def leatref01_Add (_N : Nat) (a0 : Int) (a1 : Int) : Option Int :=
  bif ((decide ((0 : Int) < a1)) == true) then
    bif (decide ((IntKind.wrap .i64 (9223372036854775807 - a1)) < a0)) then
      some 9223372036854775807
    else bif ((decide (a1 < 0)) == true) then
      bif (decide (a0 < (IntKind.wrap .i64 ((-9223372036854775808) - a1)))) then
        some (-9223372036854775808)
      else some (IntKind.wrap .i64 (a0 + a1))
    else some (IntKind.wrap .i64 (a0 + a1))
  else bif ((decide (a1 < 0)) == true) then
    bif (decide (a0 < (IntKind.wrap .i64 ((-9223372036854775808) - a1)))) then
      some (-9223372036854775808)
    else some (IntKind.wrap .i64 (a0 + a1))
  else some (IntKind.wrap .i64 (a0 + a1))
def leatref44_Flow_L4_j3 (N : Nat) (F : ((Int × (Int × Unit)) × ((List (Int × (Int × (Int × (Int × (Int × Int)))))) × ((Int × (Int × (Int × (Int × (Int × (Int × (Int × (Int × (Int × (Int × (Int × (Int × Unit)))))))))))) × ((Int × (Int × (Int × (Int × (Int × (Int × (Int × (Int × (Int × (Int × (Int × (Int × Unit)))))))))))) × Unit)))) → Option (Unit × ((Int × (Int × (Int × (Int × (Int × (Int × (Int × (Int × (Int × (Int × (Int × (Int × Unit)))))))))))) × ((Int × (Int × (Int × (Int × (Int × (Int × (Int × (Int × (Int × (Int × (Int × (Int × Unit)))))))))))) × Unit)))) (p100 : Int) (p200 : Int) (x : ((Int × (Int × Unit)) × ((List (Int × (Int × (Int × (Int × (Int × Int)))))) × ((Int × (Int × (Int × (Int × (Int × (Int × (Int × (Int × (Int × (Int × (Int × (Int × Unit)))))))))))) × ((Int × (Int × (Int × (Int × (Int × (Int × (Int × (Int × (Int × (Int × (Int × (Int × Unit)))))))))))) × Unit))))) (p300 : Int) : Option (Unit × ((Int × (Int × (Int × (Int × (Int × (Int × (Int × (Int × (Int × (Int × (Int × (Int × Unit)))))))))))) × ((Int × (Int × (Int × (Int × (Int × (Int × (Int × (Int × (Int × (Int × (Int × (Int × Unit)))))))))))) × Unit))) :=
  bif ((decide ((0 : Int) ≤ x.1.2.1)) && (decide (x.1.2.1 < (((x.2.1).length : Nat) : Int)))) then
    bif ((decide ((0 : Int) ≤ x.1.2.1)) && (decide (x.1.2.1 < (((x.2.1).length : Nat) : Int)))) then
      (leatref01_Add N x.2.2.2.1.2.2.2.2.2.2.2.2.2.2.2.1 (x.2.1.getD (x.1.2.1 : Int).toNat (0, (0, (0, (0, (0, 0)))))).2.2.2.2.2).bind fun r300 =>
      F ((x.1.1, ((IntKind.wrap .i64 (x.1.2.1 + 1)), ())), (x.2.1, ((x.2.2.1.1, (x.2.2.1.2.1, (x.2.2.1.2.2.1, (x.2.2.1.2.2.2.1, (x.2.2.1.2.2.2.2.1, (x.2.2.1.2.2.2.2.2.1, (x.2.2.1.2.2.2.2.2.2.1, (x.2.2.1.2.2.2.2.2.2.2.1, (x.2.2.1.2.2.2.2.2.2.2.2.1, (x.2.2.1.2.2.2.2.2.2.2.2.2.1, (x.2.2.1.2.2.2.2.2.2.2.2.2.2.1, (x.2.2.1.2.2.2.2.2.2.2.2.2.2.2.1, ())))))))))))), ((x.2.2.2.1.1, (x.2.2.2.1.2.1, (p300, (p100, (p200, (x.2.2.2.1.2.2.2.2.2.1, (x.2.2.2.1.2.2.2.2.2.2.1, (x.2.2.2.1.2.2.2.2.2.2.2.1, (x.2.2.2.1.2.2.2.2.2.2.2.2.1, (x.2.2.2.1.2.2.2.2.2.2.2.2.2.1, ((imx x.2.2.2.1.2.2.2.2.2.2.2.2.2.2.1 (x.2.1.getD (x.1.2.1 : Int).toNat (0, (0, (0, (0, (0, 0)))))).2.2.2.2.2), (r300, ())))))))))))), ()))))
    else
      none
  else
    none
def leatref44_Flow_L4_j2 (N : Nat) (F : ((Int × (Int × Unit)) × ((List (Int × (Int × (Int × (Int × (Int × Int)))))) × ((Int × (Int × (Int × (Int × (Int × (Int × (Int × (Int × (Int × (Int × (Int × (Int × Unit)))))))))))) × ((Int × (Int × (Int × (Int × (Int × (Int × (Int × (Int × (Int × (Int × (Int × (Int × Unit)))))))))))) × Unit)))) → Option (Unit × ((Int × (Int × (Int × (Int × (Int × (Int × (Int × (Int × (Int × (Int × (Int × (Int × Unit)))))))))))) × ((Int × (Int × (Int × (Int × (Int × (Int × (Int × (Int × (Int × (Int × (Int × (Int × Unit)))))))))))) × Unit)))) (p100 : Int) (x : ((Int × (Int × Unit)) × ((List (Int × (Int × (Int × (Int × (Int × Int)))))) × ((Int × (Int × (Int × (Int × (Int × (Int × (Int × (Int × (Int × (Int × (Int × (Int × Unit)))))))))))) × ((Int × (Int × (Int × (Int × (Int × (Int × (Int × (Int × (Int × (Int × (Int × (Int × Unit)))))))))))) × Unit))))) (p200 : Int) : Option (Unit × ((Int × (Int × (Int × (Int × (Int × (Int × (Int × (Int × (Int × (Int × (Int × (Int × Unit)))))))))))) × ((Int × (Int × (Int × (Int × (Int × (Int × (Int × (Int × (Int × (Int × (Int × (Int × Unit)))))))))))) × Unit))) :=
  bif ((decide ((0 : Int) ≤ x.1.2.1)) && (decide (x.1.2.1 < (((x.2.1).length : Nat) : Int)))) then
    bif ((x.2.1.getD (x.1.2.1 : Int).toNat (0, (0, (0, (0, (0, 0)))))).2.1 == 3) then
      bif ((decide ((0 : Int) ≤ x.1.2.1)) && (decide (x.1.2.1 < (((x.2.1).length : Nat) : Int)))) then
        bif ((x.2.1.getD (x.1.2.1 : Int).toNat (0, (0, (0, (0, (0, 0)))))).2.2.2.2.1 == 3) then
          leatref44_Flow_L4_j3 N F p100 p200 x (IntKind.wrap .i64 (x.2.2.2.1.2.2.1 + 1))
        else
          leatref44_Flow_L4_j3 N F p100 p200 x x.2.2.2.1.2.2.1
      else
        none
    else
      F ((x.1.1, ((IntKind.wrap .i64 (x.1.2.1 + 1)), ())), (x.2.1, ((x.2.2.1.1, (x.2.2.1.2.1, (x.2.2.1.2.2.1, (x.2.2.1.2.2.2.1, (x.2.2.1.2.2.2.2.1, (x.2.2.1.2.2.2.2.2.1, (x.2.2.1.2.2.2.2.2.2.1, (x.2.2.1.2.2.2.2.2.2.2.1, (x.2.2.1.2.2.2.2.2.2.2.2.1, (x.2.2.1.2.2.2.2.2.2.2.2.2.1, (x.2.2.1.2.2.2.2.2.2.2.2.2.2.1, (x.2.2.1.2.2.2.2.2.2.2.2.2.2.2.1, ())))))))))))), ((x.2.2.2.1.1, (x.2.2.2.1.2.1, (x.2.2.2.1.2.2.1, (p100, (p200, (x.2.2.2.1.2.2.2.2.2.1, (x.2.2.2.1.2.2.2.2.2.2.1, (x.2.2.2.1.2.2.2.2.2.2.2.1, (x.2.2.2.1.2.2.2.2.2.2.2.2.1, (x.2.2.2.1.2.2.2.2.2.2.2.2.2.1, (x.2.2.2.1.2.2.2.2.2.2.2.2.2.2.1, (x.2.2.2.1.2.2.2.2.2.2.2.2.2.2.2.1, ())))))))))))), ()))))
  else
    none
def leatref44_Flow_L4_j1 (N : Nat) (F : ((Int × (Int × Unit)) × ((List (Int × (Int × (Int × (Int × (Int × Int)))))) × ((Int × (Int × (Int × (Int × (Int × (Int × (Int × (Int × (Int × (Int × (Int × (Int × Unit)))))))))))) × ((Int × (Int × (Int × (Int × (Int × (Int × (Int × (Int × (Int × (Int × (Int × (Int × Unit)))))))))))) × Unit)))) → Option (Unit × ((Int × (Int × (Int × (Int × (Int × (Int × (Int × (Int × (Int × (Int × (Int × (Int × Unit)))))))))))) × ((Int × (Int × (Int × (Int × (Int × (Int × (Int × (Int × (Int × (Int × (Int × (Int × Unit)))))))))))) × Unit)))) (x : ((Int × (Int × Unit)) × ((List (Int × (Int × (Int × (Int × (Int × Int)))))) × ((Int × (Int × (Int × (Int × (Int × (Int × (Int × (Int × (Int × (Int × (Int × (Int × Unit)))))))))))) × ((Int × (Int × (Int × (Int × (Int × (Int × (Int × (Int × (Int × (Int × (Int × (Int × Unit)))))))))))) × Unit))))) (p100 : Int) : Option (Unit × ((Int × (Int × (Int × (Int × (Int × (Int × (Int × (Int × (Int × (Int × (Int × (Int × Unit)))))))))))) × ((Int × (Int × (Int × (Int × (Int × (Int × (Int × (Int × (Int × (Int × (Int × (Int × Unit)))))))))))) × Unit))) :=
  bif ((decide ((0 : Int) ≤ x.1.2.1)) && (decide (x.1.2.1 < (((x.2.1).length : Nat) : Int)))) then
    bif (((x.2.1.getD (x.1.2.1 : Int).toNat (0, (0, (0, (0, (0, 0)))))).2.1 == 2) == true) then
      bif ((decide ((0 : Int) ≤ x.1.2.1)) && (decide (x.1.2.1 < (((x.2.1).length : Nat) : Int)))) then
        bif (! ((x.2.1.getD (x.1.2.1 : Int).toNat (0, (0, (0, (0, (0, 0)))))).2.2.2.2.2 == 1)) then
          leatref44_Flow_L4_j2 N F p100 x (IntKind.wrap .i64 (x.2.2.2.1.2.2.2.2.1 + 1))
        else
          leatref44_Flow_L4_j2 N F p100 x x.2.2.2.1.2.2.2.2.1
      else
        none
    else
      leatref44_Flow_L4_j2 N F p100 x x.2.2.2.1.2.2.2.2.1
  else
    none
def leatref44_Flow_L4 (N : Nat) (F : ((Int × (Int × Unit)) × ((List (Int × (Int × (Int × (Int × (Int × Int)))))) × ((Int × (Int × (Int × (Int × (Int × (Int × (Int × (Int × (Int × (Int × (Int × (Int × Unit)))))))))))) × ((Int × (Int × (Int × (Int × (Int × (Int × (Int × (Int × (Int × (Int × (Int × (Int × Unit)))))))))))) × Unit)))) → Option (Unit × ((Int × (Int × (Int × (Int × (Int × (Int × (Int × (Int × (Int × (Int × (Int × (Int × Unit)))))))))))) × ((Int × (Int × (Int × (Int × (Int × (Int × (Int × (Int × (Int × (Int × (Int × (Int × Unit)))))))))))) × Unit)))) (x : ((Int × (Int × Unit)) × ((List (Int × (Int × (Int × (Int × (Int × Int)))))) × ((Int × (Int × (Int × (Int × (Int × (Int × (Int × (Int × (Int × (Int × (Int × (Int × Unit)))))))))))) × ((Int × (Int × (Int × (Int × (Int × (Int × (Int × (Int × (Int × (Int × (Int × (Int × Unit)))))))))))) × Unit))))) : Option (Unit × ((Int × (Int × (Int × (Int × (Int × (Int × (Int × (Int × (Int × (Int × (Int × (Int × Unit)))))))))))) × ((Int × (Int × (Int × (Int × (Int × (Int × (Int × (Int × (Int × (Int × (Int × (Int × Unit)))))))))))) × Unit))) :=
  bif (decide (x.1.2.1 < (((x.2.1).length : Nat) : Int))) then
    bif ((decide ((0 : Int) ≤ x.1.2.1)) && (decide (x.1.2.1 < (((x.2.1).length : Nat) : Int)))) then
      bif (! ((x.2.1.getD (x.1.2.1 : Int).toNat (0, (0, (0, (0, (0, 0)))))).2.2.1 == x.1.1)) then
        F ((x.1.1, ((IntKind.wrap .i64 (x.1.2.1 + 1)), ())), (x.2.1, ((x.2.2.1.1, (x.2.2.1.2.1, (x.2.2.1.2.2.1, (x.2.2.1.2.2.2.1, (x.2.2.1.2.2.2.2.1, (x.2.2.1.2.2.2.2.2.1, (x.2.2.1.2.2.2.2.2.2.1, (x.2.2.1.2.2.2.2.2.2.2.1, (x.2.2.1.2.2.2.2.2.2.2.2.1, (x.2.2.1.2.2.2.2.2.2.2.2.2.1, (x.2.2.1.2.2.2.2.2.2.2.2.2.2.1, (x.2.2.1.2.2.2.2.2.2.2.2.2.2.2.1, ())))))))))))), ((x.2.2.2.1.1, (x.2.2.2.1.2.1, (x.2.2.2.1.2.2.1, (x.2.2.2.1.2.2.2.1, (x.2.2.2.1.2.2.2.2.1, (x.2.2.2.1.2.2.2.2.2.1, (x.2.2.2.1.2.2.2.2.2.2.1, (x.2.2.2.1.2.2.2.2.2.2.2.1, (x.2.2.2.1.2.2.2.2.2.2.2.2.1, (x.2.2.2.1.2.2.2.2.2.2.2.2.2.1, (x.2.2.2.1.2.2.2.2.2.2.2.2.2.2.1, (x.2.2.2.1.2.2.2.2.2.2.2.2.2.2.2.1, ())))))))))))), ()))))
      else
        bif ((decide ((0 : Int) ≤ x.1.2.1)) && (decide (x.1.2.1 < (((x.2.1).length : Nat) : Int)))) then
          bif (((x.2.1.getD (x.1.2.1 : Int).toNat (0, (0, (0, (0, (0, 0)))))).2.1 == 2) == true) then
            bif ((decide ((0 : Int) ≤ x.1.2.1)) && (decide (x.1.2.1 < (((x.2.1).length : Nat) : Int)))) then
              bif ((x.2.1.getD (x.1.2.1 : Int).toNat (0, (0, (0, (0, (0, 0)))))).2.2.2.2.2 == 1) then
                leatref44_Flow_L4_j1 N F x (IntKind.wrap .i64 (x.2.2.2.1.2.2.2.1 + 1))
              else
                leatref44_Flow_L4_j1 N F x x.2.2.2.1.2.2.2.1
            else
              none
          else
            leatref44_Flow_L4_j1 N F x x.2.2.2.1.2.2.2.1
        else
          none
    else
      none
  else
    some ((), ((x.2.2.1.1, (x.2.2.1.2.1, (x.2.2.1.2.2.1, (x.2.2.1.2.2.2.1, (x.2.2.1.2.2.2.2.1, (x.2.2.1.2.2.2.2.2.1, (x.2.2.1.2.2.2.2.2.2.1, (x.2.2.1.2.2.2.2.2.2.2.1, (x.2.2.1.2.2.2.2.2.2.2.2.1, (x.2.2.1.2.2.2.2.2.2.2.2.2.1, (x.2.2.1.2.2.2.2.2.2.2.2.2.2.1, (x.2.2.1.2.2.2.2.2.2.2.2.2.2.2.1, ())))))))))))), ((x.2.2.2.1.1, (x.2.2.2.1.2.1, (x.2.2.2.1.2.2.1, (x.2.2.2.1.2.2.2.1, (x.2.2.2.1.2.2.2.2.1, (x.2.2.2.1.2.2.2.2.2.1, (x.2.2.2.1.2.2.2.2.2.2.1, (x.2.2.2.1.2.2.2.2.2.2.2.1, (x.2.2.2.1.2.2.2.2.2.2.2.2.1, (x.2.2.2.1.2.2.2.2.2.2.2.2.2.1, (x.2.2.2.1.2.2.2.2.2.2.2.2.2.2.1, (x.2.2.2.1.2.2.2.2.2.2.2.2.2.2.2.1, ())))))))))))), ())))

def leatref44_Flow (N : Nat) (a0 : (List (Int × (Int × (Int × (Int × (Int × Int))))))) (a1 : Int) (a2 : Int) : Option (Int × (Int × (Int × (Int × (Int × (Int × (Int × (Int × (Int × (Int × (Int × Int))))))))))) :=
  (leatref44_number N a0 a1 1).bind fun r0 =>
  (leatref44_number N a0 a1 3).bind fun r1 =>
  (leatref44_number N a0 a1 4).bind fun r2 =>
  (leatref44_number N a0 a1 5).bind fun r3 =>
  (leatref44_number N a0 a1 6).bind fun r4 =>
  (leatref44_number N a0 a1 7).bind fun r5 =>
  (iter (leatref44_Flow_L4 N) N ((a1, (0, ())), (a0, ((0, (0, (0, (0, (0, (0, (0, (0, (0, (0, (0, (0, ())))))))))))), ((r0, (r1, (0, (0, (0, (r4, (r3, (r2, (r5, ((IntKind.wrap .i64 (r1 * a2)), (0, (0, ())))))))))))), ()))))).bind fun r6 =>
  some (r6.2.2.1.1, (r6.2.2.1.2.1, (r6.2.2.1.2.2.1, (r6.2.2.1.2.2.2.1, (r6.2.2.1.2.2.2.2.1, (r6.2.2.1.2.2.2.2.2.1, (r6.2.2.1.2.2.2.2.2.2.1, (r6.2.2.1.2.2.2.2.2.2.2.1, (r6.2.2.1.2.2.2.2.2.2.2.2.1, (r6.2.2.1.2.2.2.2.2.2.2.2.2.1, (r6.2.2.1.2.2.2.2.2.2.2.2.2.2.1, r6.2.2.1.2.2.2.2.2.2.2.2.2.2.2.1)))))))))))

def leatref44_Flows_L3 (N : Nat) (F : ((Int × Unit) × ((List (Int × (Int × (Int × (Int × (Int × Int)))))) × ((List Int) × ((List (Int × (Int × (Int × (Int × (Int × (Int × (Int × (Int × (Int × (Int × (Int × Int)))))))))))) × Unit)))) → Option (Unit × ((List (Int × (Int × (Int × (Int × (Int × (Int × (Int × (Int × (Int × (Int × (Int × Int)))))))))))) × Unit))) (x : ((Int × Unit) × ((List (Int × (Int × (Int × (Int × (Int × Int)))))) × ((List Int) × ((List (Int × (Int × (Int × (Int × (Int × (Int × (Int × (Int × (Int × (Int × (Int × Int)))))))))))) × Unit))))) : Option (Unit × ((List (Int × (Int × (Int × (Int × (Int × (Int × (Int × (Int × (Int × (Int × (Int × Int)))))))))))) × Unit)) :=
  bif (decide (x.1.1 < (((x.2.2.1).length : Nat) : Int))) then
    (leatref44_Of N x.2.1 (((x.2.2.1).length : Nat) : Int)).bind fun r0 =>
    (leatref44_Size N x.2.2.1 x.1.1).bind fun r1 =>
    (leatref44_Flow N r0 x.1.1 r1).bind fun r2 =>
    bif (decide ((((x.2.2.2.1).length + (([r2] : List (Int × (Int × (Int × (Int × (Int × (Int × (Int × (Int × (Int × (Int × (Int × Int))))))))))))).length) * 96) ≤ 140737488355328)) then
      F (((IntKind.wrap .i64 (x.1.1 + 1)), ()), (x.2.1, (x.2.2.1, ((x.2.2.2.1 ++ ([r2] : List (Int × (Int × (Int × (Int × (Int × (Int × (Int × (Int × (Int × (Int × (Int × Int))))))))))))), ()))))
    else
      none
  else
    some ((), (x.2.2.2.1, ()))

def leatref44_Flows (N : Nat) (a0 : (List (Int × (Int × (Int × (Int × (Int × Int))))))) (a1 : (List Int)) : Option (List (Int × (Int × (Int × (Int × (Int × (Int × (Int × (Int × (Int × (Int × (Int × Int)))))))))))) :=
  (iter (leatref44_Flows_L3 N) N ((0, ()), (a0, (a1, (([] : List (Int × (Int × (Int × (Int × (Int × (Int × (Int × (Int × (Int × (Int × (Int × Int)))))))))))), ()))))).bind fun r0 =>
  some r0.2.1

def leatlaw44_same_L4 (_N : Nat) (F : ((Int × (Int × Unit)) × ((List (Int × (Int × (Int × (Int × (Int × (Int × (Int × (Int × (Int × (Int × (Int × Int)))))))))))) × ((List (Int × (Int × (Int × (Int × (Int × (Int × (Int × (Int × (Int × (Int × (Int × Int)))))))))))) × Unit))) → Option (((Bool × Unit) × Unit) ⊕ (Unit × Unit))) (x : ((Int × (Int × Unit)) × ((List (Int × (Int × (Int × (Int × (Int × (Int × (Int × (Int × (Int × (Int × (Int × Int)))))))))))) × ((List (Int × (Int × (Int × (Int × (Int × (Int × (Int × (Int × (Int × (Int × (Int × Int)))))))))))) × Unit)))) : Option (((Bool × Unit) × Unit) ⊕ (Unit × Unit)) :=
  bif (decide (x.1.2.1 < x.1.1)) then
    bif ((decide ((0 : Int) ≤ x.1.2.1)) && (decide (x.1.2.1 < (((x.2.1).length : Nat) : Int)))) then
      bif ((decide ((0 : Int) ≤ x.1.2.1)) && (decide (x.1.2.1 < (((x.2.2.1).length : Nat) : Int)))) then
        bif (! (((x.2.1.getD (x.1.2.1 : Int).toNat (0, (0, (0, (0, (0, (0, (0, (0, (0, (0, (0, 0)))))))))))).1 == (x.2.2.1.getD (x.1.2.1 : Int).toNat (0, (0, (0, (0, (0, (0, (0, (0, (0, (0, (0, 0)))))))))))).1) && (((x.2.1.getD (x.1.2.1 : Int).toNat (0, (0, (0, (0, (0, (0, (0, (0, (0, (0, (0, 0)))))))))))).2.1 == (x.2.2.1.getD (x.1.2.1 : Int).toNat (0, (0, (0, (0, (0, (0, (0, (0, (0, (0, (0, 0)))))))))))).2.1) && (((x.2.1.getD (x.1.2.1 : Int).toNat (0, (0, (0, (0, (0, (0, (0, (0, (0, (0, (0, 0)))))))))))).2.2.1 == (x.2.2.1.getD (x.1.2.1 : Int).toNat (0, (0, (0, (0, (0, (0, (0, (0, (0, (0, (0, 0)))))))))))).2.2.1) && (((x.2.1.getD (x.1.2.1 : Int).toNat (0, (0, (0, (0, (0, (0, (0, (0, (0, (0, (0, 0)))))))))))).2.2.2.1 == (x.2.2.1.getD (x.1.2.1 : Int).toNat (0, (0, (0, (0, (0, (0, (0, (0, (0, (0, (0, 0)))))))))))).2.2.2.1) && (((x.2.1.getD (x.1.2.1 : Int).toNat (0, (0, (0, (0, (0, (0, (0, (0, (0, (0, (0, 0)))))))))))).2.2.2.2.1 == (x.2.2.1.getD (x.1.2.1 : Int).toNat (0, (0, (0, (0, (0, (0, (0, (0, (0, (0, (0, 0)))))))))))).2.2.2.2.1) && (((x.2.1.getD (x.1.2.1 : Int).toNat (0, (0, (0, (0, (0, (0, (0, (0, (0, (0, (0, 0)))))))))))).2.2.2.2.2.1 == (x.2.2.1.getD (x.1.2.1 : Int).toNat (0, (0, (0, (0, (0, (0, (0, (0, (0, (0, (0, 0)))))))))))).2.2.2.2.2.1) && (((x.2.1.getD (x.1.2.1 : Int).toNat (0, (0, (0, (0, (0, (0, (0, (0, (0, (0, (0, 0)))))))))))).2.2.2.2.2.2.1 == (x.2.2.1.getD (x.1.2.1 : Int).toNat (0, (0, (0, (0, (0, (0, (0, (0, (0, (0, (0, 0)))))))))))).2.2.2.2.2.2.1) && (((x.2.1.getD (x.1.2.1 : Int).toNat (0, (0, (0, (0, (0, (0, (0, (0, (0, (0, (0, 0)))))))))))).2.2.2.2.2.2.2.1 == (x.2.2.1.getD (x.1.2.1 : Int).toNat (0, (0, (0, (0, (0, (0, (0, (0, (0, (0, (0, 0)))))))))))).2.2.2.2.2.2.2.1) && (((x.2.1.getD (x.1.2.1 : Int).toNat (0, (0, (0, (0, (0, (0, (0, (0, (0, (0, (0, 0)))))))))))).2.2.2.2.2.2.2.2.1 == (x.2.2.1.getD (x.1.2.1 : Int).toNat (0, (0, (0, (0, (0, (0, (0, (0, (0, (0, (0, 0)))))))))))).2.2.2.2.2.2.2.2.1) && (((x.2.1.getD (x.1.2.1 : Int).toNat (0, (0, (0, (0, (0, (0, (0, (0, (0, (0, (0, 0)))))))))))).2.2.2.2.2.2.2.2.2.1 == (x.2.2.1.getD (x.1.2.1 : Int).toNat (0, (0, (0, (0, (0, (0, (0, (0, (0, (0, (0, 0)))))))))))).2.2.2.2.2.2.2.2.2.1) && (((x.2.1.getD (x.1.2.1 : Int).toNat (0, (0, (0, (0, (0, (0, (0, (0, (0, (0, (0, 0)))))))))))).2.2.2.2.2.2.2.2.2.2.1 == (x.2.2.1.getD (x.1.2.1 : Int).toNat (0, (0, (0, (0, (0, (0, (0, (0, (0, (0, (0, 0)))))))))))).2.2.2.2.2.2.2.2.2.2.1) && (((x.2.1.getD (x.1.2.1 : Int).toNat (0, (0, (0, (0, (0, (0, (0, (0, (0, (0, (0, 0)))))))))))).2.2.2.2.2.2.2.2.2.2.2 == (x.2.2.1.getD (x.1.2.1 : Int).toNat (0, (0, (0, (0, (0, (0, (0, (0, (0, (0, (0, 0)))))))))))).2.2.2.2.2.2.2.2.2.2.2) && true))))))))))))) then
          some (.inl ((false, ()), ()))
        else
          F ((x.1.1, ((IntKind.wrap .i64 (x.1.2.1 + 1)), ())), (x.2.1, (x.2.2.1, ())))
      else
        none
    else
      none
  else
    some (.inr ((), ()))

def leatlaw44_same (N : Nat) (a0 : (List (Int × (Int × (Int × (Int × (Int × (Int × (Int × (Int × (Int × (Int × (Int × Int))))))))))))) (a1 : (List (Int × (Int × (Int × (Int × (Int × (Int × (Int × (Int × (Int × (Int × (Int × Int))))))))))))) : Option Bool :=
  bif (! ((((a0).length : Nat) : Int) == (((a1).length : Nat) : Int))) then
    some false
  else
    (iter (leatlaw44_same_L4 N) N (((((a0).length : Nat) : Int), (0, ())), (a0, (a1, ())))).bind fun r0 =>
    match r0 with
    | .inl r1 =>
      some r1.1.1
    | .inr _ =>
      some true

def meter_All_L6 (N : Nat) (F : ((Int × (Int × (Unit × (Int × Unit)))) × ((Int × (Int × (Int × (Int × (Int × (Int × (Int × (Int × (Int × (Int × (Int × (Int × Unit)))))))))))) × ((Int × (Int × (Int × (Int × (Int × (Int × (Int × (Int × (Int × (Int × (Int × (Int × Unit)))))))))))) × ((Int × (Int × (Int × (Int × (Int × (Int × (Int × (Int × (Int × (Int × (Int × (Int × Unit)))))))))))) × ((List (Int × (Int × (Int × (Int × (Int × (Int × (Int × (Int × (Int × (Int × (Int × Int)))))))))))) × Unit))))) → Option ((Int × (Int × Unit)) × ((Int × (Int × (Int × (Int × (Int × (Int × (Int × (Int × (Int × (Int × (Int × (Int × Unit)))))))))))) × ((Int × (Int × (Int × (Int × (Int × (Int × (Int × (Int × (Int × (Int × (Int × (Int × Unit)))))))))))) × ((Int × (Int × (Int × (Int × (Int × (Int × (Int × (Int × (Int × (Int × (Int × (Int × Unit)))))))))))) × ((List (Int × (Int × (Int × (Int × (Int × (Int × (Int × (Int × (Int × (Int × (Int × Int)))))))))))) × Unit)))))) (x : ((Int × (Int × (Unit × (Int × Unit)))) × ((Int × (Int × (Int × (Int × (Int × (Int × (Int × (Int × (Int × (Int × (Int × (Int × Unit)))))))))))) × ((Int × (Int × (Int × (Int × (Int × (Int × (Int × (Int × (Int × (Int × (Int × (Int × Unit)))))))))))) × ((Int × (Int × (Int × (Int × (Int × (Int × (Int × (Int × (Int × (Int × (Int × (Int × Unit)))))))))))) × ((List (Int × (Int × (Int × (Int × (Int × (Int × (Int × (Int × (Int × (Int × (Int × Int)))))))))))) × Unit)))))) : Option ((Int × (Int × Unit)) × ((Int × (Int × (Int × (Int × (Int × (Int × (Int × (Int × (Int × (Int × (Int × (Int × Unit)))))))))))) × ((Int × (Int × (Int × (Int × (Int × (Int × (Int × (Int × (Int × (Int × (Int × (Int × Unit)))))))))))) × ((Int × (Int × (Int × (Int × (Int × (Int × (Int × (Int × (Int × (Int × (Int × (Int × Unit)))))))))))) × ((List (Int × (Int × (Int × (Int × (Int × (Int × (Int × (Int × (Int × (Int × (Int × Int)))))))))))) × Unit))))) :=
  bif (decide (x.1.2.2.2.1 < 11)) then
    bif (decide (x.1.2.2.2.1 = 0)) then
      (sat_Add N x.2.2.1.1 x.2.2.2.1.1).bind fun r0 =>
      F ((x.1.1, (x.1.2.1, ((), (1, ())))), ((x.2.1.1, (x.2.1.2.1, (x.2.1.2.2.1, (x.2.1.2.2.2.1, (x.2.1.2.2.2.2.1, (x.2.1.2.2.2.2.2.1, (x.2.1.2.2.2.2.2.2.1, (x.2.1.2.2.2.2.2.2.2.1, (x.2.1.2.2.2.2.2.2.2.2.1, (x.2.1.2.2.2.2.2.2.2.2.2.1, (x.2.1.2.2.2.2.2.2.2.2.2.2.1, (x.2.1.2.2.2.2.2.2.2.2.2.2.2.1, ())))))))))))), ((r0, (x.2.2.1.2.1, (x.2.2.1.2.2.1, (x.2.2.1.2.2.2.1, (x.2.2.1.2.2.2.2.1, (x.2.2.1.2.2.2.2.2.1, (x.2.2.1.2.2.2.2.2.2.1, (x.2.2.1.2.2.2.2.2.2.2.1, (x.2.2.1.2.2.2.2.2.2.2.2.1, (x.2.2.1.2.2.2.2.2.2.2.2.2.1, (x.2.2.1.2.2.2.2.2.2.2.2.2.2.1, (x.2.2.1.2.2.2.2.2.2.2.2.2.2.2.1, ())))))))))))), ((x.2.2.2.1.1, (x.2.2.2.1.2.1, (x.2.2.2.1.2.2.1, (x.2.2.2.1.2.2.2.1, (x.2.2.2.1.2.2.2.2.1, (x.2.2.2.1.2.2.2.2.2.1, (x.2.2.2.1.2.2.2.2.2.2.1, (x.2.2.2.1.2.2.2.2.2.2.2.1, (x.2.2.2.1.2.2.2.2.2.2.2.2.1, (x.2.2.2.1.2.2.2.2.2.2.2.2.2.1, (x.2.2.2.1.2.2.2.2.2.2.2.2.2.2.1, (x.2.2.2.1.2.2.2.2.2.2.2.2.2.2.2.1, ())))))))))))), (x.2.2.2.2.1, ())))))
    else
      bif (decide (x.1.2.2.2.1 = 1)) then
        (sat_Add N x.2.2.1.2.1 x.2.2.2.1.2.1).bind fun r1 =>
        F ((x.1.1, (x.1.2.1, ((), (2, ())))), ((x.2.1.1, (x.2.1.2.1, (x.2.1.2.2.1, (x.2.1.2.2.2.1, (x.2.1.2.2.2.2.1, (x.2.1.2.2.2.2.2.1, (x.2.1.2.2.2.2.2.2.1, (x.2.1.2.2.2.2.2.2.2.1, (x.2.1.2.2.2.2.2.2.2.2.1, (x.2.1.2.2.2.2.2.2.2.2.2.1, (x.2.1.2.2.2.2.2.2.2.2.2.2.1, (x.2.1.2.2.2.2.2.2.2.2.2.2.2.1, ())))))))))))), ((x.2.2.1.1, (r1, (x.2.2.1.2.2.1, (x.2.2.1.2.2.2.1, (x.2.2.1.2.2.2.2.1, (x.2.2.1.2.2.2.2.2.1, (x.2.2.1.2.2.2.2.2.2.1, (x.2.2.1.2.2.2.2.2.2.2.1, (x.2.2.1.2.2.2.2.2.2.2.2.1, (x.2.2.1.2.2.2.2.2.2.2.2.2.1, (x.2.2.1.2.2.2.2.2.2.2.2.2.2.1, (x.2.2.1.2.2.2.2.2.2.2.2.2.2.2.1, ())))))))))))), ((x.2.2.2.1.1, (x.2.2.2.1.2.1, (x.2.2.2.1.2.2.1, (x.2.2.2.1.2.2.2.1, (x.2.2.2.1.2.2.2.2.1, (x.2.2.2.1.2.2.2.2.2.1, (x.2.2.2.1.2.2.2.2.2.2.1, (x.2.2.2.1.2.2.2.2.2.2.2.1, (x.2.2.2.1.2.2.2.2.2.2.2.2.1, (x.2.2.2.1.2.2.2.2.2.2.2.2.2.1, (x.2.2.2.1.2.2.2.2.2.2.2.2.2.2.1, (x.2.2.2.1.2.2.2.2.2.2.2.2.2.2.2.1, ())))))))))))), (x.2.2.2.2.1, ())))))
      else
        bif (decide (x.1.2.2.2.1 = 2)) then
          (sat_Add N x.2.2.1.2.2.1 x.2.2.2.1.2.2.1).bind fun r2 =>
          F ((x.1.1, (x.1.2.1, ((), (3, ())))), ((x.2.1.1, (x.2.1.2.1, (x.2.1.2.2.1, (x.2.1.2.2.2.1, (x.2.1.2.2.2.2.1, (x.2.1.2.2.2.2.2.1, (x.2.1.2.2.2.2.2.2.1, (x.2.1.2.2.2.2.2.2.2.1, (x.2.1.2.2.2.2.2.2.2.2.1, (x.2.1.2.2.2.2.2.2.2.2.2.1, (x.2.1.2.2.2.2.2.2.2.2.2.2.1, (x.2.1.2.2.2.2.2.2.2.2.2.2.2.1, ())))))))))))), ((x.2.2.1.1, (x.2.2.1.2.1, (r2, (x.2.2.1.2.2.2.1, (x.2.2.1.2.2.2.2.1, (x.2.2.1.2.2.2.2.2.1, (x.2.2.1.2.2.2.2.2.2.1, (x.2.2.1.2.2.2.2.2.2.2.1, (x.2.2.1.2.2.2.2.2.2.2.2.1, (x.2.2.1.2.2.2.2.2.2.2.2.2.1, (x.2.2.1.2.2.2.2.2.2.2.2.2.2.1, (x.2.2.1.2.2.2.2.2.2.2.2.2.2.2.1, ())))))))))))), ((x.2.2.2.1.1, (x.2.2.2.1.2.1, (x.2.2.2.1.2.2.1, (x.2.2.2.1.2.2.2.1, (x.2.2.2.1.2.2.2.2.1, (x.2.2.2.1.2.2.2.2.2.1, (x.2.2.2.1.2.2.2.2.2.2.1, (x.2.2.2.1.2.2.2.2.2.2.2.1, (x.2.2.2.1.2.2.2.2.2.2.2.2.1, (x.2.2.2.1.2.2.2.2.2.2.2.2.2.1, (x.2.2.2.1.2.2.2.2.2.2.2.2.2.2.1, (x.2.2.2.1.2.2.2.2.2.2.2.2.2.2.2.1, ())))))))))))), (x.2.2.2.2.1, ())))))
        else
          bif (decide (x.1.2.2.2.1 = 3)) then
            (sat_Add N x.2.2.1.2.2.2.1 x.2.2.2.1.2.2.2.1).bind fun r3 =>
            F ((x.1.1, (x.1.2.1, ((), (4, ())))), ((x.2.1.1, (x.2.1.2.1, (x.2.1.2.2.1, (x.2.1.2.2.2.1, (x.2.1.2.2.2.2.1, (x.2.1.2.2.2.2.2.1, (x.2.1.2.2.2.2.2.2.1, (x.2.1.2.2.2.2.2.2.2.1, (x.2.1.2.2.2.2.2.2.2.2.1, (x.2.1.2.2.2.2.2.2.2.2.2.1, (x.2.1.2.2.2.2.2.2.2.2.2.2.1, (x.2.1.2.2.2.2.2.2.2.2.2.2.2.1, ())))))))))))), ((x.2.2.1.1, (x.2.2.1.2.1, (x.2.2.1.2.2.1, (r3, (x.2.2.1.2.2.2.2.1, (x.2.2.1.2.2.2.2.2.1, (x.2.2.1.2.2.2.2.2.2.1, (x.2.2.1.2.2.2.2.2.2.2.1, (x.2.2.1.2.2.2.2.2.2.2.2.1, (x.2.2.1.2.2.2.2.2.2.2.2.2.1, (x.2.2.1.2.2.2.2.2.2.2.2.2.2.1, (x.2.2.1.2.2.2.2.2.2.2.2.2.2.2.1, ())))))))))))), ((x.2.2.2.1.1, (x.2.2.2.1.2.1, (x.2.2.2.1.2.2.1, (x.2.2.2.1.2.2.2.1, (x.2.2.2.1.2.2.2.2.1, (x.2.2.2.1.2.2.2.2.2.1, (x.2.2.2.1.2.2.2.2.2.2.1, (x.2.2.2.1.2.2.2.2.2.2.2.1, (x.2.2.2.1.2.2.2.2.2.2.2.2.1, (x.2.2.2.1.2.2.2.2.2.2.2.2.2.1, (x.2.2.2.1.2.2.2.2.2.2.2.2.2.2.1, (x.2.2.2.1.2.2.2.2.2.2.2.2.2.2.2.1, ())))))))))))), (x.2.2.2.2.1, ())))))
          else
            bif (decide (x.1.2.2.2.1 = 4)) then
              (sat_Add N x.2.2.1.2.2.2.2.1 x.2.2.2.1.2.2.2.2.1).bind fun r4 =>
              F ((x.1.1, (x.1.2.1, ((), (5, ())))), ((x.2.1.1, (x.2.1.2.1, (x.2.1.2.2.1, (x.2.1.2.2.2.1, (x.2.1.2.2.2.2.1, (x.2.1.2.2.2.2.2.1, (x.2.1.2.2.2.2.2.2.1, (x.2.1.2.2.2.2.2.2.2.1, (x.2.1.2.2.2.2.2.2.2.2.1, (x.2.1.2.2.2.2.2.2.2.2.2.1, (x.2.1.2.2.2.2.2.2.2.2.2.2.1, (x.2.1.2.2.2.2.2.2.2.2.2.2.2.1, ())))))))))))), ((x.2.2.1.1, (x.2.2.1.2.1, (x.2.2.1.2.2.1, (x.2.2.1.2.2.2.1, (r4, (x.2.2.1.2.2.2.2.2.1, (x.2.2.1.2.2.2.2.2.2.1, (x.2.2.1.2.2.2.2.2.2.2.1, (x.2.2.1.2.2.2.2.2.2.2.2.1, (x.2.2.1.2.2.2.2.2.2.2.2.2.1, (x.2.2.1.2.2.2.2.2.2.2.2.2.2.1, (x.2.2.1.2.2.2.2.2.2.2.2.2.2.2.1, ())))))))))))), ((x.2.2.2.1.1, (x.2.2.2.1.2.1, (x.2.2.2.1.2.2.1, (x.2.2.2.1.2.2.2.1, (x.2.2.2.1.2.2.2.2.1, (x.2.2.2.1.2.2.2.2.2.1, (x.2.2.2.1.2.2.2.2.2.2.1, (x.2.2.2.1.2.2.2.2.2.2.2.1, (x.2.2.2.1.2.2.2.2.2.2.2.2.1, (x.2.2.2.1.2.2.2.2.2.2.2.2.2.1, (x.2.2.2.1.2.2.2.2.2.2.2.2.2.2.1, (x.2.2.2.1.2.2.2.2.2.2.2.2.2.2.2.1, ())))))))))))), (x.2.2.2.2.1, ())))))
            else
              bif (decide (x.1.2.2.2.1 = 5)) then
                (sat_Add N x.2.2.1.2.2.2.2.2.1 x.2.2.2.1.2.2.2.2.2.1).bind fun r5 =>
                F ((x.1.1, (x.1.2.1, ((), (6, ())))), ((x.2.1.1, (x.2.1.2.1, (x.2.1.2.2.1, (x.2.1.2.2.2.1, (x.2.1.2.2.2.2.1, (x.2.1.2.2.2.2.2.1, (x.2.1.2.2.2.2.2.2.1, (x.2.1.2.2.2.2.2.2.2.1, (x.2.1.2.2.2.2.2.2.2.2.1, (x.2.1.2.2.2.2.2.2.2.2.2.1, (x.2.1.2.2.2.2.2.2.2.2.2.2.1, (x.2.1.2.2.2.2.2.2.2.2.2.2.2.1, ())))))))))))), ((x.2.2.1.1, (x.2.2.1.2.1, (x.2.2.1.2.2.1, (x.2.2.1.2.2.2.1, (x.2.2.1.2.2.2.2.1, (r5, (x.2.2.1.2.2.2.2.2.2.1, (x.2.2.1.2.2.2.2.2.2.2.1, (x.2.2.1.2.2.2.2.2.2.2.2.1, (x.2.2.1.2.2.2.2.2.2.2.2.2.1, (x.2.2.1.2.2.2.2.2.2.2.2.2.2.1, (x.2.2.1.2.2.2.2.2.2.2.2.2.2.2.1, ())))))))))))), ((x.2.2.2.1.1, (x.2.2.2.1.2.1, (x.2.2.2.1.2.2.1, (x.2.2.2.1.2.2.2.1, (x.2.2.2.1.2.2.2.2.1, (x.2.2.2.1.2.2.2.2.2.1, (x.2.2.2.1.2.2.2.2.2.2.1, (x.2.2.2.1.2.2.2.2.2.2.2.1, (x.2.2.2.1.2.2.2.2.2.2.2.2.1, (x.2.2.2.1.2.2.2.2.2.2.2.2.2.1, (x.2.2.2.1.2.2.2.2.2.2.2.2.2.2.1, (x.2.2.2.1.2.2.2.2.2.2.2.2.2.2.2.1, ())))))))))))), (x.2.2.2.2.1, ())))))
              else
                bif (decide (x.1.2.2.2.1 = 6)) then
                  (sat_Add N x.2.2.1.2.2.2.2.2.2.1 x.2.2.2.1.2.2.2.2.2.2.1).bind fun r6 =>
                  F ((x.1.1, (x.1.2.1, ((), (7, ())))), ((x.2.1.1, (x.2.1.2.1, (x.2.1.2.2.1, (x.2.1.2.2.2.1, (x.2.1.2.2.2.2.1, (x.2.1.2.2.2.2.2.1, (x.2.1.2.2.2.2.2.2.1, (x.2.1.2.2.2.2.2.2.2.1, (x.2.1.2.2.2.2.2.2.2.2.1, (x.2.1.2.2.2.2.2.2.2.2.2.1, (x.2.1.2.2.2.2.2.2.2.2.2.2.1, (x.2.1.2.2.2.2.2.2.2.2.2.2.2.1, ())))))))))))), ((x.2.2.1.1, (x.2.2.1.2.1, (x.2.2.1.2.2.1, (x.2.2.1.2.2.2.1, (x.2.2.1.2.2.2.2.1, (x.2.2.1.2.2.2.2.2.1, (r6, (x.2.2.1.2.2.2.2.2.2.2.1, (x.2.2.1.2.2.2.2.2.2.2.2.1, (x.2.2.1.2.2.2.2.2.2.2.2.2.1, (x.2.2.1.2.2.2.2.2.2.2.2.2.2.1, (x.2.2.1.2.2.2.2.2.2.2.2.2.2.2.1, ())))))))))))), ((x.2.2.2.1.1, (x.2.2.2.1.2.1, (x.2.2.2.1.2.2.1, (x.2.2.2.1.2.2.2.1, (x.2.2.2.1.2.2.2.2.1, (x.2.2.2.1.2.2.2.2.2.1, (x.2.2.2.1.2.2.2.2.2.2.1, (x.2.2.2.1.2.2.2.2.2.2.2.1, (x.2.2.2.1.2.2.2.2.2.2.2.2.1, (x.2.2.2.1.2.2.2.2.2.2.2.2.2.1, (x.2.2.2.1.2.2.2.2.2.2.2.2.2.2.1, (x.2.2.2.1.2.2.2.2.2.2.2.2.2.2.2.1, ())))))))))))), (x.2.2.2.2.1, ())))))
                else
                  bif (decide (x.1.2.2.2.1 = 7)) then
                    (sat_Add N x.2.2.1.2.2.2.2.2.2.2.1 x.2.2.2.1.2.2.2.2.2.2.2.1).bind fun r7 =>
                    F ((x.1.1, (x.1.2.1, ((), (8, ())))), ((x.2.1.1, (x.2.1.2.1, (x.2.1.2.2.1, (x.2.1.2.2.2.1, (x.2.1.2.2.2.2.1, (x.2.1.2.2.2.2.2.1, (x.2.1.2.2.2.2.2.2.1, (x.2.1.2.2.2.2.2.2.2.1, (x.2.1.2.2.2.2.2.2.2.2.1, (x.2.1.2.2.2.2.2.2.2.2.2.1, (x.2.1.2.2.2.2.2.2.2.2.2.2.1, (x.2.1.2.2.2.2.2.2.2.2.2.2.2.1, ())))))))))))), ((x.2.2.1.1, (x.2.2.1.2.1, (x.2.2.1.2.2.1, (x.2.2.1.2.2.2.1, (x.2.2.1.2.2.2.2.1, (x.2.2.1.2.2.2.2.2.1, (x.2.2.1.2.2.2.2.2.2.1, (r7, (x.2.2.1.2.2.2.2.2.2.2.2.1, (x.2.2.1.2.2.2.2.2.2.2.2.2.1, (x.2.2.1.2.2.2.2.2.2.2.2.2.2.1, (x.2.2.1.2.2.2.2.2.2.2.2.2.2.2.1, ())))))))))))), ((x.2.2.2.1.1, (x.2.2.2.1.2.1, (x.2.2.2.1.2.2.1, (x.2.2.2.1.2.2.2.1, (x.2.2.2.1.2.2.2.2.1, (x.2.2.2.1.2.2.2.2.2.1, (x.2.2.2.1.2.2.2.2.2.2.1, (x.2.2.2.1.2.2.2.2.2.2.2.1, (x.2.2.2.1.2.2.2.2.2.2.2.2.1, (x.2.2.2.1.2.2.2.2.2.2.2.2.2.1, (x.2.2.2.1.2.2.2.2.2.2.2.2.2.2.1, (x.2.2.2.1.2.2.2.2.2.2.2.2.2.2.2.1, ())))))))))))), (x.2.2.2.2.1, ())))))
                  else
                    bif (decide (x.1.2.2.2.1 = 8)) then
                      (sat_Add N x.2.2.1.2.2.2.2.2.2.2.2.1 x.2.2.2.1.2.2.2.2.2.2.2.2.1).bind fun r8 =>
                      F ((x.1.1, (x.1.2.1, ((), (9, ())))), ((x.2.1.1, (x.2.1.2.1, (x.2.1.2.2.1, (x.2.1.2.2.2.1, (x.2.1.2.2.2.2.1, (x.2.1.2.2.2.2.2.1, (x.2.1.2.2.2.2.2.2.1, (x.2.1.2.2.2.2.2.2.2.1, (x.2.1.2.2.2.2.2.2.2.2.1, (x.2.1.2.2.2.2.2.2.2.2.2.1, (x.2.1.2.2.2.2.2.2.2.2.2.2.1, (x.2.1.2.2.2.2.2.2.2.2.2.2.2.1, ())))))))))))), ((x.2.2.1.1, (x.2.2.1.2.1, (x.2.2.1.2.2.1, (x.2.2.1.2.2.2.1, (x.2.2.1.2.2.2.2.1, (x.2.2.1.2.2.2.2.2.1, (x.2.2.1.2.2.2.2.2.2.1, (x.2.2.1.2.2.2.2.2.2.2.1, (r8, (x.2.2.1.2.2.2.2.2.2.2.2.2.1, (x.2.2.1.2.2.2.2.2.2.2.2.2.2.1, (x.2.2.1.2.2.2.2.2.2.2.2.2.2.2.1, ())))))))))))), ((x.2.2.2.1.1, (x.2.2.2.1.2.1, (x.2.2.2.1.2.2.1, (x.2.2.2.1.2.2.2.1, (x.2.2.2.1.2.2.2.2.1, (x.2.2.2.1.2.2.2.2.2.1, (x.2.2.2.1.2.2.2.2.2.2.1, (x.2.2.2.1.2.2.2.2.2.2.2.1, (x.2.2.2.1.2.2.2.2.2.2.2.2.1, (x.2.2.2.1.2.2.2.2.2.2.2.2.2.1, (x.2.2.2.1.2.2.2.2.2.2.2.2.2.2.1, (x.2.2.2.1.2.2.2.2.2.2.2.2.2.2.2.1, ())))))))))))), (x.2.2.2.2.1, ())))))
                    else
                      bif (decide (x.1.2.2.2.1 = 9)) then
                        (sat_Add N x.2.2.1.2.2.2.2.2.2.2.2.2.1 x.2.2.2.1.2.2.2.2.2.2.2.2.2.1).bind fun r9 =>
                        F ((x.1.1, (x.1.2.1, ((), (10, ())))), ((x.2.1.1, (x.2.1.2.1, (x.2.1.2.2.1, (x.2.1.2.2.2.1, (x.2.1.2.2.2.2.1, (x.2.1.2.2.2.2.2.1, (x.2.1.2.2.2.2.2.2.1, (x.2.1.2.2.2.2.2.2.2.1, (x.2.1.2.2.2.2.2.2.2.2.1, (x.2.1.2.2.2.2.2.2.2.2.2.1, (x.2.1.2.2.2.2.2.2.2.2.2.2.1, (x.2.1.2.2.2.2.2.2.2.2.2.2.2.1, ())))))))))))), ((x.2.2.1.1, (x.2.2.1.2.1, (x.2.2.1.2.2.1, (x.2.2.1.2.2.2.1, (x.2.2.1.2.2.2.2.1, (x.2.2.1.2.2.2.2.2.1, (x.2.2.1.2.2.2.2.2.2.1, (x.2.2.1.2.2.2.2.2.2.2.1, (x.2.2.1.2.2.2.2.2.2.2.2.1, (r9, (x.2.2.1.2.2.2.2.2.2.2.2.2.2.1, (x.2.2.1.2.2.2.2.2.2.2.2.2.2.2.1, ())))))))))))), ((x.2.2.2.1.1, (x.2.2.2.1.2.1, (x.2.2.2.1.2.2.1, (x.2.2.2.1.2.2.2.1, (x.2.2.2.1.2.2.2.2.1, (x.2.2.2.1.2.2.2.2.2.1, (x.2.2.2.1.2.2.2.2.2.2.1, (x.2.2.2.1.2.2.2.2.2.2.2.1, (x.2.2.2.1.2.2.2.2.2.2.2.2.1, (x.2.2.2.1.2.2.2.2.2.2.2.2.2.1, (x.2.2.2.1.2.2.2.2.2.2.2.2.2.2.1, (x.2.2.2.1.2.2.2.2.2.2.2.2.2.2.2.1, ())))))))))))), (x.2.2.2.2.1, ())))))
                      else
                        bif (decide (x.1.2.2.2.1 = 10)) then
                          (sat_Add N x.2.2.1.2.2.2.2.2.2.2.2.2.2.2.1 x.2.2.2.1.2.2.2.2.2.2.2.2.2.2.2.1).bind fun r10 =>
                          F ((x.1.1, (x.1.2.1, ((), (11, ())))), ((x.2.1.1, (x.2.1.2.1, (x.2.1.2.2.1, (x.2.1.2.2.2.1, (x.2.1.2.2.2.2.1, (x.2.1.2.2.2.2.2.1, (x.2.1.2.2.2.2.2.2.1, (x.2.1.2.2.2.2.2.2.2.1, (x.2.1.2.2.2.2.2.2.2.2.1, (x.2.1.2.2.2.2.2.2.2.2.2.1, (x.2.1.2.2.2.2.2.2.2.2.2.2.1, (x.2.1.2.2.2.2.2.2.2.2.2.2.2.1, ())))))))))))), ((x.2.2.1.1, (x.2.2.1.2.1, (x.2.2.1.2.2.1, (x.2.2.1.2.2.2.1, (x.2.2.1.2.2.2.2.1, (x.2.2.1.2.2.2.2.2.1, (x.2.2.1.2.2.2.2.2.2.1, (x.2.2.1.2.2.2.2.2.2.2.1, (x.2.2.1.2.2.2.2.2.2.2.2.1, (x.2.2.1.2.2.2.2.2.2.2.2.2.1, (x.2.2.1.2.2.2.2.2.2.2.2.2.2.1, (r10, ())))))))))))), ((x.2.2.2.1.1, (x.2.2.2.1.2.1, (x.2.2.2.1.2.2.1, (x.2.2.2.1.2.2.2.1, (x.2.2.2.1.2.2.2.2.1, (x.2.2.2.1.2.2.2.2.2.1, (x.2.2.2.1.2.2.2.2.2.2.1, (x.2.2.2.1.2.2.2.2.2.2.2.1, (x.2.2.2.1.2.2.2.2.2.2.2.2.1, (x.2.2.2.1.2.2.2.2.2.2.2.2.2.1, (x.2.2.2.1.2.2.2.2.2.2.2.2.2.2.1, (x.2.2.2.1.2.2.2.2.2.2.2.2.2.2.2.1, ())))))))))))), (x.2.2.2.2.1, ())))))
                        else
                          none
  else
    some ((x.1.1, (x.1.2.1, ())), ((x.2.1.1, (x.2.1.2.1, (x.2.1.2.2.1, (x.2.1.2.2.2.1, (x.2.1.2.2.2.2.1, (x.2.1.2.2.2.2.2.1, (x.2.1.2.2.2.2.2.2.1, (x.2.1.2.2.2.2.2.2.2.1, (x.2.1.2.2.2.2.2.2.2.2.1, (x.2.1.2.2.2.2.2.2.2.2.2.1, (x.2.1.2.2.2.2.2.2.2.2.2.2.1, (x.2.1.2.2.2.2.2.2.2.2.2.2.2.1, ())))))))))))), ((x.2.2.1.1, (x.2.2.1.2.1, (x.2.2.1.2.2.1, (x.2.2.1.2.2.2.1, (x.2.2.1.2.2.2.2.1, (x.2.2.1.2.2.2.2.2.1, (x.2.2.1.2.2.2.2.2.2.1, (x.2.2.1.2.2.2.2.2.2.2.1, (x.2.2.1.2.2.2.2.2.2.2.2.1, (x.2.2.1.2.2.2.2.2.2.2.2.2.1, (x.2.2.1.2.2.2.2.2.2.2.2.2.2.1, (x.2.2.1.2.2.2.2.2.2.2.2.2.2.2.1, ())))))))))))), ((x.2.2.2.1.1, (x.2.2.2.1.2.1, (x.2.2.2.1.2.2.1, (x.2.2.2.1.2.2.2.1, (x.2.2.2.1.2.2.2.2.1, (x.2.2.2.1.2.2.2.2.2.1, (x.2.2.2.1.2.2.2.2.2.2.1, (x.2.2.2.1.2.2.2.2.2.2.2.1, (x.2.2.2.1.2.2.2.2.2.2.2.2.1, (x.2.2.2.1.2.2.2.2.2.2.2.2.2.1, (x.2.2.2.1.2.2.2.2.2.2.2.2.2.2.1, (x.2.2.2.1.2.2.2.2.2.2.2.2.2.2.2.1, ())))))))))))), (x.2.2.2.2.1, ())))))

def meter_All_L3 (N : Nat) (F : ((Int × (Int × Unit)) × ((Int × (Int × (Int × (Int × (Int × (Int × (Int × (Int × (Int × (Int × (Int × (Int × Unit)))))))))))) × ((Int × (Int × (Int × (Int × (Int × (Int × (Int × (Int × (Int × (Int × (Int × (Int × Unit)))))))))))) × ((List (Int × (Int × (Int × (Int × (Int × (Int × (Int × (Int × (Int × (Int × (Int × Int)))))))))))) × Unit)))) → Option (Unit × ((Int × (Int × (Int × (Int × (Int × (Int × (Int × (Int × (Int × (Int × (Int × (Int × Unit)))))))))))) × ((Int × (Int × (Int × (Int × (Int × (Int × (Int × (Int × (Int × (Int × (Int × (Int × Unit)))))))))))) × Unit)))) (x : ((Int × (Int × Unit)) × ((Int × (Int × (Int × (Int × (Int × (Int × (Int × (Int × (Int × (Int × (Int × (Int × Unit)))))))))))) × ((Int × (Int × (Int × (Int × (Int × (Int × (Int × (Int × (Int × (Int × (Int × (Int × Unit)))))))))))) × ((List (Int × (Int × (Int × (Int × (Int × (Int × (Int × (Int × (Int × (Int × (Int × Int)))))))))))) × Unit))))) : Option (Unit × ((Int × (Int × (Int × (Int × (Int × (Int × (Int × (Int × (Int × (Int × (Int × (Int × Unit)))))))))))) × ((Int × (Int × (Int × (Int × (Int × (Int × (Int × (Int × (Int × (Int × (Int × (Int × Unit)))))))))))) × Unit))) :=
  bif (decide (x.1.2.1 < x.1.1)) then
    bif ((decide ((0 : Int) ≤ x.1.2.1)) && (decide (x.1.2.1 < (((x.2.2.2.1).length : Nat) : Int)))) then
      (iter (meter_All_L6 N) N ((x.1.1, (x.1.2.1, ((), (0, ())))), ((x.2.1.1, (x.2.1.2.1, (x.2.1.2.2.1, (x.2.1.2.2.2.1, (x.2.1.2.2.2.2.1, (x.2.1.2.2.2.2.2.1, (x.2.1.2.2.2.2.2.2.1, (x.2.1.2.2.2.2.2.2.2.1, (x.2.1.2.2.2.2.2.2.2.2.1, (x.2.1.2.2.2.2.2.2.2.2.2.1, (x.2.1.2.2.2.2.2.2.2.2.2.2.1, (x.2.1.2.2.2.2.2.2.2.2.2.2.2.1, ())))))))))))), ((x.2.2.1.1, (x.2.2.1.2.1, (x.2.2.1.2.2.1, (x.2.2.1.2.2.2.1, (x.2.2.1.2.2.2.2.1, (x.2.2.1.2.2.2.2.2.1, (x.2.2.1.2.2.2.2.2.2.1, (x.2.2.1.2.2.2.2.2.2.2.1, (x.2.2.1.2.2.2.2.2.2.2.2.1, (x.2.2.1.2.2.2.2.2.2.2.2.2.1, (x.2.2.1.2.2.2.2.2.2.2.2.2.2.1, (x.2.2.1.2.2.2.2.2.2.2.2.2.2.2.1, ())))))))))))), (((x.2.2.2.1.getD (x.1.2.1 : Int).toNat (0, (0, (0, (0, (0, (0, (0, (0, (0, (0, (0, 0)))))))))))).1, ((x.2.2.2.1.getD (x.1.2.1 : Int).toNat (0, (0, (0, (0, (0, (0, (0, (0, (0, (0, (0, 0)))))))))))).2.1, ((x.2.2.2.1.getD (x.1.2.1 : Int).toNat (0, (0, (0, (0, (0, (0, (0, (0, (0, (0, (0, 0)))))))))))).2.2.1, ((x.2.2.2.1.getD (x.1.2.1 : Int).toNat (0, (0, (0, (0, (0, (0, (0, (0, (0, (0, (0, 0)))))))))))).2.2.2.1, ((x.2.2.2.1.getD (x.1.2.1 : Int).toNat (0, (0, (0, (0, (0, (0, (0, (0, (0, (0, (0, 0)))))))))))).2.2.2.2.1, ((x.2.2.2.1.getD (x.1.2.1 : Int).toNat (0, (0, (0, (0, (0, (0, (0, (0, (0, (0, (0, 0)))))))))))).2.2.2.2.2.1, ((x.2.2.2.1.getD (x.1.2.1 : Int).toNat (0, (0, (0, (0, (0, (0, (0, (0, (0, (0, (0, 0)))))))))))).2.2.2.2.2.2.1, ((x.2.2.2.1.getD (x.1.2.1 : Int).toNat (0, (0, (0, (0, (0, (0, (0, (0, (0, (0, (0, 0)))))))))))).2.2.2.2.2.2.2.1, ((x.2.2.2.1.getD (x.1.2.1 : Int).toNat (0, (0, (0, (0, (0, (0, (0, (0, (0, (0, (0, 0)))))))))))).2.2.2.2.2.2.2.2.1, ((x.2.2.2.1.getD (x.1.2.1 : Int).toNat (0, (0, (0, (0, (0, (0, (0, (0, (0, (0, (0, 0)))))))))))).2.2.2.2.2.2.2.2.2.1, ((x.2.2.2.1.getD (x.1.2.1 : Int).toNat (0, (0, (0, (0, (0, (0, (0, (0, (0, (0, (0, 0)))))))))))).2.2.2.2.2.2.2.2.2.2.1, ((x.2.2.2.1.getD (x.1.2.1 : Int).toNat (0, (0, (0, (0, (0, (0, (0, (0, (0, (0, (0, 0)))))))))))).2.2.2.2.2.2.2.2.2.2.2, ())))))))))))), (x.2.2.2.1, ())))))).bind fun r0 =>
      F ((r0.1.1, ((IntKind.wrap .i64 (r0.1.2.1 + 1)), ())), ((r0.2.1.1, (r0.2.1.2.1, (r0.2.1.2.2.1, (r0.2.1.2.2.2.1, (r0.2.1.2.2.2.2.1, (r0.2.1.2.2.2.2.2.1, (r0.2.1.2.2.2.2.2.2.1, (r0.2.1.2.2.2.2.2.2.2.1, (r0.2.1.2.2.2.2.2.2.2.2.1, (r0.2.1.2.2.2.2.2.2.2.2.2.1, (r0.2.1.2.2.2.2.2.2.2.2.2.2.1, (r0.2.1.2.2.2.2.2.2.2.2.2.2.2.1, ())))))))))))), ((r0.2.2.1.1, (r0.2.2.1.2.1, (r0.2.2.1.2.2.1, (r0.2.2.1.2.2.2.1, (r0.2.2.1.2.2.2.2.1, (r0.2.2.1.2.2.2.2.2.1, (r0.2.2.1.2.2.2.2.2.2.1, (r0.2.2.1.2.2.2.2.2.2.2.1, (r0.2.2.1.2.2.2.2.2.2.2.2.1, (r0.2.2.1.2.2.2.2.2.2.2.2.2.1, ((imx r0.2.2.1.2.2.2.2.2.2.2.2.2.2.1 r0.2.2.2.1.2.2.2.2.2.2.2.2.2.2.1), (r0.2.2.1.2.2.2.2.2.2.2.2.2.2.2.1, ())))))))))))), (r0.2.2.2.2.1, ()))))
    else
      none
  else
    some ((), ((x.2.1.1, (x.2.1.2.1, (x.2.1.2.2.1, (x.2.1.2.2.2.1, (x.2.1.2.2.2.2.1, (x.2.1.2.2.2.2.2.1, (x.2.1.2.2.2.2.2.2.1, (x.2.1.2.2.2.2.2.2.2.1, (x.2.1.2.2.2.2.2.2.2.2.1, (x.2.1.2.2.2.2.2.2.2.2.2.1, (x.2.1.2.2.2.2.2.2.2.2.2.2.1, (x.2.1.2.2.2.2.2.2.2.2.2.2.2.1, ())))))))))))), ((x.2.2.1.1, (x.2.2.1.2.1, (x.2.2.1.2.2.1, (x.2.2.1.2.2.2.1, (x.2.2.1.2.2.2.2.1, (x.2.2.1.2.2.2.2.2.1, (x.2.2.1.2.2.2.2.2.2.1, (x.2.2.1.2.2.2.2.2.2.2.1, (x.2.2.1.2.2.2.2.2.2.2.2.1, (x.2.2.1.2.2.2.2.2.2.2.2.2.1, (x.2.2.1.2.2.2.2.2.2.2.2.2.2.1, (x.2.2.1.2.2.2.2.2.2.2.2.2.2.2.1, ())))))))))))), ())))

def meter_All (N : Nat) (a0 : (List (Int × (Int × (Int × (Int × (Int × (Int × (Int × (Int × (Int × (Int × (Int × Int))))))))))))) : Option (Int × (Int × (Int × (Int × (Int × (Int × (Int × (Int × (Int × (Int × (Int × Int))))))))))) :=
  (iter (meter_All_L3 N) N (((((a0).length : Nat) : Int), (0, ())), ((0, (0, (0, (0, (0, (0, (0, (0, (0, (0, (0, (0, ())))))))))))), ((0, (0, (0, (0, (0, (0, (0, (0, (0, (0, (0, (0, ())))))))))))), (a0, ()))))).bind fun r0 =>
  some (r0.2.2.1.1, (r0.2.2.1.2.1, (r0.2.2.1.2.2.1, (r0.2.2.1.2.2.2.1, (r0.2.2.1.2.2.2.2.1, (r0.2.2.1.2.2.2.2.2.1, (r0.2.2.1.2.2.2.2.2.2.1, (r0.2.2.1.2.2.2.2.2.2.2.1, (r0.2.2.1.2.2.2.2.2.2.2.2.1, (r0.2.2.1.2.2.2.2.2.2.2.2.2.1, (r0.2.2.1.2.2.2.2.2.2.2.2.2.2.1, r0.2.2.1.2.2.2.2.2.2.2.2.2.2.2.1)))))))))))

def leatref44_All_L3 (N : Nat) (F : ((Int × Unit) × ((List (Int × (Int × (Int × (Int × (Int × (Int × (Int × (Int × (Int × (Int × (Int × Int)))))))))))) × ((Int × (Int × (Int × (Int × (Int × (Int × (Int × (Int × (Int × (Int × (Int × (Int × Unit)))))))))))) × ((Int × (Int × (Int × (Int × (Int × (Int × (Int × (Int × (Int × (Int × (Int × (Int × Unit)))))))))))) × Unit)))) → Option (Unit × ((Int × (Int × (Int × (Int × (Int × (Int × (Int × (Int × (Int × (Int × (Int × (Int × Unit)))))))))))) × ((Int × (Int × (Int × (Int × (Int × (Int × (Int × (Int × (Int × (Int × (Int × (Int × Unit)))))))))))) × Unit)))) (x : ((Int × Unit) × ((List (Int × (Int × (Int × (Int × (Int × (Int × (Int × (Int × (Int × (Int × (Int × Int)))))))))))) × ((Int × (Int × (Int × (Int × (Int × (Int × (Int × (Int × (Int × (Int × (Int × (Int × Unit)))))))))))) × ((Int × (Int × (Int × (Int × (Int × (Int × (Int × (Int × (Int × (Int × (Int × (Int × Unit)))))))))))) × Unit))))) : Option (Unit × ((Int × (Int × (Int × (Int × (Int × (Int × (Int × (Int × (Int × (Int × (Int × (Int × Unit)))))))))))) × ((Int × (Int × (Int × (Int × (Int × (Int × (Int × (Int × (Int × (Int × (Int × (Int × Unit)))))))))))) × Unit))) :=
  bif (decide (x.1.1 < (((x.2.1).length : Nat) : Int))) then
    bif ((decide ((0 : Int) ≤ x.1.1)) && (decide (x.1.1 < (((x.2.1).length : Nat) : Int)))) then
      (leatref01_Add N x.2.2.2.1.1 (x.2.1.getD (x.1.1 : Int).toNat (0, (0, (0, (0, (0, (0, (0, (0, (0, (0, (0, 0)))))))))))).1).bind fun r0 =>
      (leatref01_Add N x.2.2.2.1.2.1 (x.2.1.getD (x.1.1 : Int).toNat (0, (0, (0, (0, (0, (0, (0, (0, (0, (0, (0, 0)))))))))))).2.1).bind fun r1 =>
      (leatref01_Add N x.2.2.2.1.2.2.1 (x.2.1.getD (x.1.1 : Int).toNat (0, (0, (0, (0, (0, (0, (0, (0, (0, (0, (0, 0)))))))))))).2.2.1).bind fun r2 =>
      (leatref01_Add N x.2.2.2.1.2.2.2.1 (x.2.1.getD (x.1.1 : Int).toNat (0, (0, (0, (0, (0, (0, (0, (0, (0, (0, (0, 0)))))))))))).2.2.2.1).bind fun r3 =>
      (leatref01_Add N x.2.2.2.1.2.2.2.2.1 (x.2.1.getD (x.1.1 : Int).toNat (0, (0, (0, (0, (0, (0, (0, (0, (0, (0, (0, 0)))))))))))).2.2.2.2.1).bind fun r4 =>
      (leatref01_Add N x.2.2.2.1.2.2.2.2.2.1 (x.2.1.getD (x.1.1 : Int).toNat (0, (0, (0, (0, (0, (0, (0, (0, (0, (0, (0, 0)))))))))))).2.2.2.2.2.1).bind fun r5 =>
      (leatref01_Add N x.2.2.2.1.2.2.2.2.2.2.1 (x.2.1.getD (x.1.1 : Int).toNat (0, (0, (0, (0, (0, (0, (0, (0, (0, (0, (0, 0)))))))))))).2.2.2.2.2.2.1).bind fun r6 =>
      (leatref01_Add N x.2.2.2.1.2.2.2.2.2.2.2.1 (x.2.1.getD (x.1.1 : Int).toNat (0, (0, (0, (0, (0, (0, (0, (0, (0, (0, (0, 0)))))))))))).2.2.2.2.2.2.2.1).bind fun r7 =>
      (leatref01_Add N x.2.2.2.1.2.2.2.2.2.2.2.2.1 (x.2.1.getD (x.1.1 : Int).toNat (0, (0, (0, (0, (0, (0, (0, (0, (0, (0, (0, 0)))))))))))).2.2.2.2.2.2.2.2.1).bind fun r8 =>
      (leatref01_Add N x.2.2.2.1.2.2.2.2.2.2.2.2.2.1 (x.2.1.getD (x.1.1 : Int).toNat (0, (0, (0, (0, (0, (0, (0, (0, (0, (0, (0, 0)))))))))))).2.2.2.2.2.2.2.2.2.1).bind fun r9 =>
      (leatref01_Add N x.2.2.2.1.2.2.2.2.2.2.2.2.2.2.2.1 (x.2.1.getD (x.1.1 : Int).toNat (0, (0, (0, (0, (0, (0, (0, (0, (0, (0, (0, 0)))))))))))).2.2.2.2.2.2.2.2.2.2.2).bind fun r10 =>
      F (((IntKind.wrap .i64 (x.1.1 + 1)), ()), (x.2.1, ((x.2.2.1.1, (x.2.2.1.2.1, (x.2.2.1.2.2.1, (x.2.2.1.2.2.2.1, (x.2.2.1.2.2.2.2.1, (x.2.2.1.2.2.2.2.2.1, (x.2.2.1.2.2.2.2.2.2.1, (x.2.2.1.2.2.2.2.2.2.2.1, (x.2.2.1.2.2.2.2.2.2.2.2.1, (x.2.2.1.2.2.2.2.2.2.2.2.2.1, (x.2.2.1.2.2.2.2.2.2.2.2.2.2.1, (x.2.2.1.2.2.2.2.2.2.2.2.2.2.2.1, ())))))))))))), ((r0, (r1, (r2, (r3, (r4, (r5, (r6, (r7, (r8, (r9, ((imx x.2.2.2.1.2.2.2.2.2.2.2.2.2.2.1 (x.2.1.getD (x.1.1 : Int).toNat (0, (0, (0, (0, (0, (0, (0, (0, (0, (0, (0, 0)))))))))))).2.2.2.2.2.2.2.2.2.2.1), (r10, ())))))))))))), ()))))
    else
      none
  else
    some ((), ((x.2.2.1.1, (x.2.2.1.2.1, (x.2.2.1.2.2.1, (x.2.2.1.2.2.2.1, (x.2.2.1.2.2.2.2.1, (x.2.2.1.2.2.2.2.2.1, (x.2.2.1.2.2.2.2.2.2.1, (x.2.2.1.2.2.2.2.2.2.2.1, (x.2.2.1.2.2.2.2.2.2.2.2.1, (x.2.2.1.2.2.2.2.2.2.2.2.2.1, (x.2.2.1.2.2.2.2.2.2.2.2.2.2.1, (x.2.2.1.2.2.2.2.2.2.2.2.2.2.2.1, ())))))))))))), ((x.2.2.2.1.1, (x.2.2.2.1.2.1, (x.2.2.2.1.2.2.1, (x.2.2.2.1.2.2.2.1, (x.2.2.2.1.2.2.2.2.1, (x.2.2.2.1.2.2.2.2.2.1, (x.2.2.2.1.2.2.2.2.2.2.1, (x.2.2.2.1.2.2.2.2.2.2.2.1, (x.2.2.2.1.2.2.2.2.2.2.2.2.1, (x.2.2.2.1.2.2.2.2.2.2.2.2.2.1, (x.2.2.2.1.2.2.2.2.2.2.2.2.2.2.1, (x.2.2.2.1.2.2.2.2.2.2.2.2.2.2.2.1, ())))))))))))), ())))

def leatref44_All (N : Nat) (a0 : (List (Int × (Int × (Int × (Int × (Int × (Int × (Int × (Int × (Int × (Int × (Int × Int))))))))))))) : Option (Int × (Int × (Int × (Int × (Int × (Int × (Int × (Int × (Int × (Int × (Int × Int))))))))))) :=
  (iter (leatref44_All_L3 N) N ((0, ()), (a0, ((0, (0, (0, (0, (0, (0, (0, (0, (0, (0, (0, (0, ())))))))))))), ((0, (0, (0, (0, (0, (0, (0, (0, (0, (0, (0, (0, ())))))))))))), ()))))).bind fun r0 =>
  some (r0.2.2.1.1, (r0.2.2.1.2.1, (r0.2.2.1.2.2.1, (r0.2.2.1.2.2.2.1, (r0.2.2.1.2.2.2.2.1, (r0.2.2.1.2.2.2.2.2.1, (r0.2.2.1.2.2.2.2.2.2.1, (r0.2.2.1.2.2.2.2.2.2.2.1, (r0.2.2.1.2.2.2.2.2.2.2.2.1, (r0.2.2.1.2.2.2.2.2.2.2.2.2.1, (r0.2.2.1.2.2.2.2.2.2.2.2.2.2.1, r0.2.2.1.2.2.2.2.2.2.2.2.2.2.2.1)))))))))))
def sat_Div (_N : Nat) (a0 : Int) (a1 : Int) : Option Int :=
  bif (a1 == 0) then
    some 0
  else bif ((a0 == (-9223372036854775808)) == true) then
    bif (a1 == (-1)) then
      some 9223372036854775807
    else bif (!(decide (a1 = 0))) then
      bif (!(decide (a1 = 0))) then
        bif ((!((Int.tmod a0 a1) == 0)) == true) then
          bif (!((decide (a0 < 0)) == (decide (a1 < 0)))) then
            some (IntKind.wrap .i64 ((IntKind.wrap .i64 (Int.tdiv a0 a1)) - 1))
          else some (IntKind.wrap .i64 (Int.tdiv a0 a1))
        else some (IntKind.wrap .i64 (Int.tdiv a0 a1))
      else none
    else none
  else bif (!(decide (a1 = 0))) then
    bif (!(decide (a1 = 0))) then
      bif ((!((Int.tmod a0 a1) == 0)) == true) then
        bif (!((decide (a0 < 0)) == (decide (a1 < 0)))) then
          some (IntKind.wrap .i64 ((IntKind.wrap .i64 (Int.tdiv a0 a1)) - 1))
        else some (IntKind.wrap .i64 (Int.tdiv a0 a1))
      else some (IntKind.wrap .i64 (Int.tdiv a0 a1))
    else none
  else none

def meter_Idle_R5 (N : Nat) (it : (Int × (Int × (Int × (Int × (Int × Int)))))) (F : (Unit × (Unit × ((Int × Unit) × ((Int × Unit) × ((Int × Unit) × ((Int × Unit) × (Unit × ((Int × Unit) × ((List Int) × ((List (Int × (Int × (Int × (Int × (Int × Int)))))) × Unit)))))))))) → Option (Unit × (Unit × ((Int × Unit) × ((Int × Unit) × ((Int × Unit) × ((Int × Unit) × (Unit × ((Int × Unit) × ((List Int) × ((List (Int × (Int × (Int × (Int × (Int × Int)))))) × Unit))))))))))) (x : (Unit × (Unit × ((Int × Unit) × ((Int × Unit) × ((Int × Unit) × ((Int × Unit) × (Unit × ((Int × Unit) × ((List Int) × ((List (Int × (Int × (Int × (Int × (Int × Int)))))) × Unit))))))))))) : Option (Unit × (Unit × ((Int × Unit) × ((Int × Unit) × ((Int × Unit) × ((Int × Unit) × (Unit × ((Int × Unit) × ((List Int) × ((List (Int × (Int × (Int × (Int × (Int × Int)))))) × Unit)))))))))) :=
  bif (! (it.2.1 == 3)) then
    F ((), ((), ((x.2.2.1.1, ()), ((x.2.2.2.1.1, ()), ((x.2.2.2.2.1.1, ()), ((x.2.2.2.2.2.1.1, ()), ((), ((x.2.2.2.2.2.2.2.1.1, ()), (x.2.2.2.2.2.2.2.2.1, (x.2.2.2.2.2.2.2.2.2.1, ()))))))))))
  else
    (meter_size N x.2.2.2.2.2.2.2.2.1 it.2.2.1).bind fun r0 =>
    (sat_Div N (IntKind.wrap .i64 ((IntKind.wrap .i64 (0 - r0)) * 1000000)) x.2.2.1.1).bind fun r1 =>
    (sat_Add N (imx it.1 0) (IntKind.wrap .i64 (0 - r1))).bind fun r2 =>
    bif (decide ((imn (imx it.1 x.2.2.2.2.1.1) x.2.2.2.1.1) < (imn r2 x.2.2.2.1.1))) then
      F ((), ((), ((x.2.2.1.1, ()), ((x.2.2.2.1.1, ()), (((imn r2 x.2.2.2.1.1), ()), (((IntKind.wrap .i64 (x.2.2.2.2.2.1.1 + (IntKind.wrap .i64 ((imn r2 x.2.2.2.1.1) - (imn (imx it.1 x.2.2.2.2.1.1) x.2.2.2.1.1))))), ()), ((), ((x.2.2.2.2.2.2.2.1.1, ()), (x.2.2.2.2.2.2.2.2.1, (x.2.2.2.2.2.2.2.2.2.1, ()))))))))))
    else
      F ((), ((), ((x.2.2.1.1, ()), ((x.2.2.2.1.1, ()), ((x.2.2.2.2.1.1, ()), ((x.2.2.2.2.2.1.1, ()), ((), ((x.2.2.2.2.2.2.2.1.1, ()), (x.2.2.2.2.2.2.2.2.1, (x.2.2.2.2.2.2.2.2.2.1, ()))))))))))

def meter_Idle (N : Nat) (a0 : (List (Int × (Int × (Int × (Int × (Int × Int))))))) (a1 : (List Int)) (a2 : Int) (a3 : Int) : Option Int :=
  (sat_Clamp N a2 1 1099511627776).bind fun r0 =>
  (sat_Clamp N a3 0 1125899906842624).bind fun r1 =>
  (bif (decide ((a0).length ≤ 1000000000)) then some (metOf a0 (((a1).length : Nat) : Int)) else none).bind fun r2 =>
  (itR (meter_Idle_R5 N) r2 ((), ((), ((r0, ()), ((r1, ()), ((0, ()), ((0, ()), ((), (((((a1).length : Nat) : Int), ()), (a1, (a0, ()))))))))))).bind fun r3 =>
  some (IntKind.wrap .i64 (r3.2.2.2.1.1 - r3.2.2.2.2.2.1.1))

def leatlaw44_works (N : Nat) : Option Bool :=
  (meter_Idle N ([(0, (3, (0, (0, (0, 0)))))] : List (Int × (Int × (Int × (Int × (Int × Int)))))) ([1000] : List Int) 1000000 5000).bind fun r0 =>
  some (r0 == 4000)

def leatlaw44_MeterFlows (N : Nat) (a0 : (List (Int × (Int × (Int × (Int × (Int × Int))))))) (a1 : (List Int)) (a2 : (List (Int × (Int × (Int × (Int × (Int × (Int × (Int × (Int × (Int × (Int × (Int × Int))))))))))))) : Option Bool :=
  bif ((decide ((0 : Int) ≤ (imn (((a0).length : Nat) : Int) 80))) && (decide ((imn (((a0).length : Nat) : Int) 80) ≤ (((a0).length : Nat) : Int)))) then
    bif ((decide ((0 : Int) ≤ (imn (((a1).length : Nat) : Int) 6))) && (decide ((imn (((a1).length : Nat) : Int) 6) ≤ (((a1).length : Nat) : Int)))) then
      bif ((decide ((0 : Int) ≤ (imn (((a2).length : Nat) : Int) 10))) && (decide ((imn (((a2).length : Nat) : Int) 10) ≤ (((a2).length : Nat) : Int)))) then
        (meter_Flows N (cutL a0 0 (imn (((a0).length : Nat) : Int) 80)) (cutL a1 0 (imn (((a1).length : Nat) : Int) 6))).bind fun r0 =>
        (leatref44_Flows N (cutL a0 0 (imn (((a0).length : Nat) : Int) 80)) (cutL a1 0 (imn (((a1).length : Nat) : Int) 6))).bind fun r1 =>
        (leatlaw44_same N r0 r1).bind fun r2 =>
        bif (r2 == true) then
          (meter_All N (cutL a2 0 (imn (((a2).length : Nat) : Int) 10))).bind fun r3 =>
          (leatref44_All N (cutL a2 0 (imn (((a2).length : Nat) : Int) 10))).bind fun r4 =>
          bif (((r3.1 == r4.1) && ((r3.2.1 == r4.2.1) && ((r3.2.2.1 == r4.2.2.1) && ((r3.2.2.2.1 == r4.2.2.2.1) && ((r3.2.2.2.2.1 == r4.2.2.2.2.1) && ((r3.2.2.2.2.2.1 == r4.2.2.2.2.2.1) && ((r3.2.2.2.2.2.2.1 == r4.2.2.2.2.2.2.1) && ((r3.2.2.2.2.2.2.2.1 == r4.2.2.2.2.2.2.2.1) && ((r3.2.2.2.2.2.2.2.2.1 == r4.2.2.2.2.2.2.2.2.1) && ((r3.2.2.2.2.2.2.2.2.2.1 == r4.2.2.2.2.2.2.2.2.2.1) && ((r3.2.2.2.2.2.2.2.2.2.2.1 == r4.2.2.2.2.2.2.2.2.2.2.1) && ((r3.2.2.2.2.2.2.2.2.2.2.2 == r4.2.2.2.2.2.2.2.2.2.2.2) && true)))))))))))) == true) then
            (leatlaw44_works N).bind fun r5 =>
            some r5
          else
            some false
        else
          some false
      else
        none
    else
      none
  else
    none
end Go.Proofs.Ytakjmminaolfnaa.W
