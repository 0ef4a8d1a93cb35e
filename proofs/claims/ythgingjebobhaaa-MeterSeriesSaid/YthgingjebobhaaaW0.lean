/- The functions of the seat, as the evaluator tells them: the texts alone. Printed by genW.py. -/
import Derived.Test.YthgingjebobhaaaEvT
import Derived.Test.YthgingjebobhaaaPSrC
namespace Go.Proofs.Ythgingjebobhaaa.W
open Go.Ev Go.RowKit
def meter_Series (N : Nat) (x : ((Int × (Int × Unit)) × ((List (Int × (Int × (Int × (Int × (Int × Int)))))) × ((List Int) × Unit)))) : Option (Unit × ((List (List Int)) × Unit)) := seriesT N x
def sat_Clamp (_N : Nat) (a0 : Int) (a1 : Int) (a2 : Int) : Option Int :=
  some (if (if a2 < a0 then a2 else a0) > a1 then (if a2 < a0 then a2 else a0) else a1)

def meter_size (N : Nat) (a0 : (List Int)) (a1 : Int) : Option Int :=
  bif ((decide ((0 : Int) ≤ a1)) && (decide (a1 < (((a0).length : Nat) : Int)))) then
    (sat_Clamp N (a0.getD (a1 : Int).toNat 0) 1 65536).bind fun r0 =>
    some r0
  else
    none

def leatref44_Of_L3 (_N : Nat) (F : ((Int × (Int × Unit)) × ((List (Int × (Int × (Int × (Int × (Int × Int)))))) × ((List (Int × (Int × (Int × (Int × (Int × Int)))))) × Unit))) → Option (Unit × ((List (Int × (Int × (Int × (Int × (Int × Int)))))) × Unit))) (x : ((Int × (Int × Unit)) × ((List (Int × (Int × (Int × (Int × (Int × Int)))))) × ((List (Int × (Int × (Int × (Int × (Int × Int)))))) × Unit)))) : Option (Unit × ((List (Int × (Int × (Int × (Int × (Int × Int)))))) × Unit)) :=
  bif (decide (x.1.2.1 < (((x.2.1).length : Nat) : Int))) then
    bif ((decide ((0 : Int) ≤ x.1.2.1)) && (decide (x.1.2.1 < (((x.2.1).length : Nat) : Int)))) then
      bif ((! ((x.2.1.getD (x.1.2.1 : Int).toNat (0, (0, (0, (0, (0, 0)))))).2.1 == 8)) == true) then
        bif ((decide ((0 : Int) ≤ x.1.2.1)) && (decide (x.1.2.1 < (((x.2.1).length : Nat) : Int)))) then
          bif ((decide ((0 : Int) ≤ (x.2.1.getD (x.1.2.1 : Int).toNat (0, (0, (0, (0, (0, 0)))))).2.2.1)) == true) then
            bif ((decide ((0 : Int) ≤ x.1.2.1)) && (decide (x.1.2.1 < (((x.2.1).length : Nat) : Int)))) then
              bif (decide ((x.2.1.getD (x.1.2.1 : Int).toNat (0, (0, (0, (0, (0, 0)))))).2.2.1 < x.1.1)) then
                bif ((decide ((0 : Int) ≤ x.1.2.1)) && (decide (x.1.2.1 < (((x.2.1).length : Nat) : Int)))) then
                  bif (decide ((((x.2.2.1).length + (([(x.2.1.getD (x.1.2.1 : Int).toNat (0, (0, (0, (0, (0, 0))))))] : List (Int × (Int × (Int × (Int × (Int × Int))))))).length) * 48) ≤ 140737488355328)) then
                    F ((x.1.1, ((IntKind.wrap .i64 (x.1.2.1 + 1)), ())), (x.2.1, ((x.2.2.1 ++ ([(x.2.1.getD (x.1.2.1 : Int).toNat (0, (0, (0, (0, (0, 0))))))] : List (Int × (Int × (Int × (Int × (Int × Int))))))), ())))
                  else
                    none
                else
                  none
              else
                F ((x.1.1, ((IntKind.wrap .i64 (x.1.2.1 + 1)), ())), (x.2.1, (x.2.2.1, ())))
            else
              none
          else
            F ((x.1.1, ((IntKind.wrap .i64 (x.1.2.1 + 1)), ())), (x.2.1, (x.2.2.1, ())))
        else
          none
      else
        F ((x.1.1, ((IntKind.wrap .i64 (x.1.2.1 + 1)), ())), (x.2.1, (x.2.2.1, ())))
    else
      none
  else
    some ((), (x.2.2.1, ()))

def leatref44_Of (N : Nat) (a0 : (List (Int × (Int × (Int × (Int × (Int × Int))))))) (a1 : Int) : Option (List (Int × (Int × (Int × (Int × (Int × Int)))))) :=
  (iter (leatref44_Of_L3 N) N ((a1, (0, ())), (a0, (([] : List (Int × (Int × (Int × (Int × (Int × Int)))))), ())))).bind fun r0 =>
  some r0.2.1

def leatref44_Size (_N : Nat) (a0 : (List Int)) (a1 : Int) : Option Int :=
  bif ((decide ((0 : Int) ≤ a1)) && (decide (a1 < (((a0).length : Nat) : Int)))) then
    some (imn (imx (a0.getD (a1 : Int).toNat 0) 1) 65536)
  else
    none

def leatref44_Told_L4 (N : Nat) (F : ((Int × (Int × (Int × (Int × (Int × Unit))))) × ((List Int) × ((List (Int × (Int × (Int × (Int × (Int × Int)))))) × Unit))) → Option ((Int × Unit) × Unit)) (x : ((Int × (Int × (Int × (Int × (Int × Unit))))) × ((List Int) × ((List (Int × (Int × (Int × (Int × (Int × Int)))))) × Unit)))) : Option ((Int × Unit) × Unit) :=
  bif (decide (x.1.2.2.2.2.1 < (((x.2.2.1).length : Nat) : Int))) then
    bif ((decide ((0 : Int) ≤ x.1.2.2.2.2.1)) && (decide (x.1.2.2.2.2.1 < (((x.2.2.1).length : Nat) : Int)))) then
      bif (((x.2.2.1.getD (x.1.2.2.2.2.1 : Int).toNat (0, (0, (0, (0, (0, 0)))))).2.1 == 3) == true) then
        bif ((decide ((0 : Int) ≤ x.1.2.2.2.2.1)) && (decide (x.1.2.2.2.2.1 < (((x.2.2.1).length : Nat) : Int)))) then
          bif (((x.2.2.1.getD (x.1.2.2.2.2.1 : Int).toNat (0, (0, (0, (0, (0, 0)))))).2.2.1 == x.1.1) == true) then
            bif ((decide ((0 : Int) ≤ x.1.2.2.2.2.1)) && (decide (x.1.2.2.2.2.1 < (((x.2.2.1).length : Nat) : Int)))) then
              bif ((decide (x.1.2.1 ≤ (x.2.2.1.getD (x.1.2.2.2.2.1 : Int).toNat (0, (0, (0, (0, (0, 0)))))).1)) == true) then
                bif ((decide ((0 : Int) ≤ x.1.2.2.2.2.1)) && (decide (x.1.2.2.2.2.1 < (((x.2.2.1).length : Nat) : Int)))) then
                  bif (decide ((x.2.2.1.getD (x.1.2.2.2.2.1 : Int).toNat (0, (0, (0, (0, (0, 0)))))).1 < x.1.2.2.1)) then
                    (leatref44_Size N x.2.1 x.1.1).bind fun r0 =>
                    F ((x.1.1, (x.1.2.1, (x.1.2.2.1, ((IntKind.wrap .i64 (x.1.2.2.2.1 + r0)), ((IntKind.wrap .i64 (x.1.2.2.2.2.1 + 1)), ()))))), (x.2.1, (x.2.2.1, ())))
                  else
                    F ((x.1.1, (x.1.2.1, (x.1.2.2.1, (x.1.2.2.2.1, ((IntKind.wrap .i64 (x.1.2.2.2.2.1 + 1)), ()))))), (x.2.1, (x.2.2.1, ())))
                else
                  none
              else
                F ((x.1.1, (x.1.2.1, (x.1.2.2.1, (x.1.2.2.2.1, ((IntKind.wrap .i64 (x.1.2.2.2.2.1 + 1)), ()))))), (x.2.1, (x.2.2.1, ())))
            else
              none
          else
            F ((x.1.1, (x.1.2.1, (x.1.2.2.1, (x.1.2.2.2.1, ((IntKind.wrap .i64 (x.1.2.2.2.2.1 + 1)), ()))))), (x.2.1, (x.2.2.1, ())))
        else
          none
      else
        F ((x.1.1, (x.1.2.1, (x.1.2.2.1, (x.1.2.2.2.1, ((IntKind.wrap .i64 (x.1.2.2.2.2.1 + 1)), ()))))), (x.2.1, (x.2.2.1, ())))
    else
      none
  else
    some ((x.1.2.2.2.1, ()), ())

def leatref44_Told (N : Nat) (a0 : (List (Int × (Int × (Int × (Int × (Int × Int))))))) (a1 : (List Int)) (a2 : Int) (a3 : Int) (a4 : Int) : Option Int :=
  (leatref44_Of N a0 (((a1).length : Nat) : Int)).bind fun r0 =>
  (iter (leatref44_Told_L4 N) N ((a2, (a3, (a4, (0, (0, ()))))), (a1, (r0, ())))).bind fun r1 =>
  some r1.1.1

def meter_Peak_L3 (_N : Nat) (F : ((Int × (Int × (Int × (Int × Unit)))) × ((List Int) × Unit)) → Option ((Int × (Int × Unit)) × Unit)) (x : ((Int × (Int × (Int × (Int × Unit)))) × ((List Int) × Unit))) : Option ((Int × (Int × Unit)) × Unit) :=
  bif (decide (x.1.2.2.2.1 < x.1.2.2.1)) then
    bif ((decide ((0 : Int) ≤ x.1.2.2.2.1)) && (decide (x.1.2.2.2.1 < (((x.2.1).length : Nat) : Int)))) then
      bif ((decide (x.1.1 < 0)) == false) then
        bif (decide (x.1.2.1 < (x.2.1.getD (x.1.2.2.2.1 : Int).toNat 0))) then
          F ((x.1.2.2.2.1, ((x.2.1.getD (x.1.2.2.2.1 : Int).toNat 0), (x.1.2.2.1, ((IntKind.wrap .i64 (x.1.2.2.2.1 + 1)), ())))), (x.2.1, ()))
        else
          F ((x.1.1, (x.1.2.1, (x.1.2.2.1, ((IntKind.wrap .i64 (x.1.2.2.2.1 + 1)), ())))), (x.2.1, ()))
      else
        F ((x.1.2.2.2.1, ((x.2.1.getD (x.1.2.2.2.1 : Int).toNat 0), (x.1.2.2.1, ((IntKind.wrap .i64 (x.1.2.2.2.1 + 1)), ())))), (x.2.1, ()))
    else
      none
  else
    some ((x.1.1, (x.1.2.1, ())), ())

def meter_Peak (N : Nat) (a0 : (List Int)) : Option (Int × Int) :=
  (iter (meter_Peak_L3 N) N (((-1), (0, ((((a0).length : Nat) : Int), (0, ())))), (a0, ()))).bind fun r0 =>
  some (r0.1.1, r0.1.2.1)
def sat_Div (_N : Nat) (a0 : Int) (a1 : Int) : Option Int :=
  bif (a1 == 0) then
    some 0
  else bif ((a0 == (-9223372036854775808)) == true) then
    bif (a1 == (-1)) then
      some 9223372036854775807
    else bif (!(decide (a1 = 0))) then
      bif (!(decide (a1 = 0))) then
        bif ((!((Int.tmod a0 a1) == 0)) == true) then
          bif (!((decide (a0 < 0)) == (decide (a1 < 0)))) then
            some (IntKind.wrap .i64 ((IntKind.wrap .i64 (Int.tdiv a0 a1)) - 1))
          else some (IntKind.wrap .i64 (Int.tdiv a0 a1))
        else some (IntKind.wrap .i64 (Int.tdiv a0 a1))
      else none
    else none
  else bif (!(decide (a1 = 0))) then
    bif (!(decide (a1 = 0))) then
      bif ((!((Int.tmod a0 a1) == 0)) == true) then
        bif (!((decide (a0 < 0)) == (decide (a1 < 0)))) then
          some (IntKind.wrap .i64 ((IntKind.wrap .i64 (Int.tdiv a0 a1)) - 1))
        else some (IntKind.wrap .i64 (Int.tdiv a0 a1))
      else some (IntKind.wrap .i64 (Int.tdiv a0 a1))
    else none
  else none
def sat_end (_N : Nat) (a0 : Bool) : Option Int :=
  bif a0 then
    some (-9223372036854775808)
  else some 9223372036854775807
def sat_Add (N : Nat) (a0 : Int) (a1 : Int) : Option Int :=
  bif (decide ((bits .and .i64 (bits .xor .i64 a0 (IntKind.wrap .i64 (a0 + a1))) (bits .xor .i64 a1 (IntKind.wrap .i64 (a0 + a1)))) < 0)) then
    (sat_end N (decide (a0 < 0))).bind fun r0 =>
    some r0
  else some (IntKind.wrap .i64 (a0 + a1))

def meter_Idle_R5 (N : Nat) (y : (Int × (Int × (Int × (Int × (Int × Int)))))) (F : (Unit × (Unit × ((Int × Unit) × ((Int × Unit) × ((Int × Unit) × ((Int × Unit) × (Unit × ((Int × Unit) × ((List Int) × ((List (Int × (Int × (Int × (Int × (Int × Int)))))) × Unit)))))))))) → Option (Unit × (Unit × ((Int × Unit) × ((Int × Unit) × ((Int × Unit) × ((Int × Unit) × (Unit × ((Int × Unit) × ((List Int) × ((List (Int × (Int × (Int × (Int × (Int × Int)))))) × Unit))))))))))) (x : (Unit × (Unit × ((Int × Unit) × ((Int × Unit) × ((Int × Unit) × ((Int × Unit) × (Unit × ((Int × Unit) × ((List Int) × ((List (Int × (Int × (Int × (Int × (Int × Int)))))) × Unit))))))))))) : Option (Unit × (Unit × ((Int × Unit) × ((Int × Unit) × ((Int × Unit) × ((Int × Unit) × (Unit × ((Int × Unit) × ((List Int) × ((List (Int × (Int × (Int × (Int × (Int × Int)))))) × Unit)))))))))) :=
  bif (! (y.2.1 == 3)) then
    F ((), ((), ((x.2.2.1.1, ()), ((x.2.2.2.1.1, ()), ((x.2.2.2.2.1.1, ()), ((x.2.2.2.2.2.1.1, ()), ((), ((x.2.2.2.2.2.2.2.1.1, ()), (x.2.2.2.2.2.2.2.2.1, (x.2.2.2.2.2.2.2.2.2.1, ()))))))))))
  else
    (meter_size N x.2.2.2.2.2.2.2.2.1 y.2.2.1).bind fun r0 =>
    (sat_Div N (IntKind.wrap .i64 ((IntKind.wrap .i64 (0 - r0)) * 1000000)) x.2.2.1.1).bind fun r1 =>
    (sat_Add N (imx y.1 0) (IntKind.wrap .i64 (0 - r1))).bind fun r2 =>
    bif (decide ((imn (imx y.1 x.2.2.2.2.1.1) x.2.2.2.1.1) < (imn r2 x.2.2.2.1.1))) then
      F ((), ((), ((x.2.2.1.1, ()), ((x.2.2.2.1.1, ()), (((imn r2 x.2.2.2.1.1), ()), (((IntKind.wrap .i64 (x.2.2.2.2.2.1.1 + (IntKind.wrap .i64 ((imn r2 x.2.2.2.1.1) - (imn (imx y.1 x.2.2.2.2.1.1) x.2.2.2.1.1))))), ()), ((), ((x.2.2.2.2.2.2.2.1.1, ()), (x.2.2.2.2.2.2.2.2.1, (x.2.2.2.2.2.2.2.2.2.1, ()))))))))))
    else
      F ((), ((), ((x.2.2.1.1, ()), ((x.2.2.2.1.1, ()), ((x.2.2.2.2.1.1, ()), ((x.2.2.2.2.2.1.1, ()), ((), ((x.2.2.2.2.2.2.2.1.1, ()), (x.2.2.2.2.2.2.2.2.1, (x.2.2.2.2.2.2.2.2.2.1, ()))))))))))

def meter_Idle (N : Nat) (a0 : (List (Int × (Int × (Int × (Int × (Int × Int))))))) (a1 : (List Int)) (a2 : Int) (a3 : Int) : Option Int :=
  (sat_Clamp N a2 1 1099511627776).bind fun r0 =>
  (sat_Clamp N a3 0 1125899906842624).bind fun r1 =>
  (bif (decide ((a0).length ≤ 1000000000)) then some (metOf a0 (((a1).length : Nat) : Int)) else none).bind fun r2 =>
  (itR (meter_Idle_R5 N) r2 ((), ((), ((r0, ()), ((r1, ()), ((0, ()), ((0, ()), ((), (((((a1).length : Nat) : Int), ()), (a1, (a0, ()))))))))))).bind fun r3 =>
  some (IntKind.wrap .i64 (r3.2.2.2.1.1 - r3.2.2.2.2.2.1.1))

def leatlaw44_works (N : Nat) : Option Bool :=
  (meter_Idle N ([(0, (3, (0, (0, (0, 0)))))] : List (Int × (Int × (Int × (Int × (Int × Int)))))) ([1000] : List Int) 1000000 5000).bind fun r0 =>
  some (r0 == 4000)
def leatlaw44_MeterSeries_L14_j1 (_N : Nat) (F : ((Int × (Int × (Int × (Int × (Int × (Int × (Int × (Int × (Int × Unit))))))))) × ((List (Int × (Int × (Int × (Int × (Int × Int)))))) × ((List Int) × ((List (List Int)) × Unit)))) → Option (((Bool × Unit) × Unit) ⊕ ((Int × (Int × (Int × (Int × (Int × (Int × (Int × Unit))))))) × ((List (Int × (Int × (Int × (Int × (Int × Int)))))) × ((List Int) × ((List (List Int)) × Unit)))))) (x : ((Int × (Int × (Int × (Int × (Int × (Int × (Int × (Int × (Int × Unit))))))))) × ((List (Int × (Int × (Int × (Int × (Int × Int)))))) × ((List Int) × ((List (List Int)) × Unit))))) : Option (((Bool × Unit) × Unit) ⊕ ((Int × (Int × (Int × (Int × (Int × (Int × (Int × Unit))))))) × ((List (Int × (Int × (Int × (Int × (Int × Int)))))) × ((List Int) × ((List (List Int)) × Unit))))) :=
  bif ((decide ((0 : Int) ≤ x.1.2.2.1)) && (decide (x.1.2.2.1 < (((x.2.2.2.1).length : Nat) : Int)))) then
    bif ((decide ((0 : Int) ≤ x.1.2.2.2.2.2.2.2.2.1)) && (decide (x.1.2.2.2.2.2.2.2.2.1 < ((((x.2.2.2.1.getD (x.1.2.2.1 : Int).toNat ([] : List Int))).length : Nat) : Int)))) then
      F ((x.1.1, (x.1.2.1, (x.1.2.2.1, (((x.2.2.2.1.getD (x.1.2.2.1 : Int).toNat ([] : List Int)).getD (x.1.2.2.2.2.2.2.2.2.1 : Int).toNat 0), (x.1.2.2.2.2.2.2.2.2.1, (x.1.2.2.2.2.2.1, (x.1.2.2.2.2.2.2.1, (x.1.2.2.2.2.2.2.2.1, ((IntKind.wrap .i64 (x.1.2.2.2.2.2.2.2.2.1 + 1)), ()))))))))), (x.2.1, (x.2.2.1, (x.2.2.2.1, ()))))
    else
      none
  else
    none
def leatlaw44_MeterSeries_L14 (N : Nat) (F : ((Int × (Int × (Int × (Int × (Int × (Int × (Int × (Int × (Int × Unit))))))))) × ((List (Int × (Int × (Int × (Int × (Int × Int)))))) × ((List Int) × ((List (List Int)) × Unit)))) → Option (((Bool × Unit) × Unit) ⊕ ((Int × (Int × (Int × (Int × (Int × (Int × (Int × Unit))))))) × ((List (Int × (Int × (Int × (Int × (Int × Int)))))) × ((List Int) × ((List (List Int)) × Unit)))))) (x : ((Int × (Int × (Int × (Int × (Int × (Int × (Int × (Int × (Int × Unit))))))))) × ((List (Int × (Int × (Int × (Int × (Int × Int)))))) × ((List Int) × ((List (List Int)) × Unit))))) : Option (((Bool × Unit) × Unit) ⊕ ((Int × (Int × (Int × (Int × (Int × (Int × (Int × Unit))))))) × ((List (Int × (Int × (Int × (Int × (Int × Int)))))) × ((List Int) × ((List (List Int)) × Unit))))) :=
  bif (decide (x.1.2.2.2.2.2.2.2.2.1 < x.1.2.2.2.2.2.2.2.1)) then
    bif ((decide ((0 : Int) ≤ x.1.2.2.1)) && (decide (x.1.2.2.1 < (((x.2.2.2.1).length : Nat) : Int)))) then
      bif ((decide ((0 : Int) ≤ x.1.2.2.2.2.2.2.2.2.1)) && (decide (x.1.2.2.2.2.2.2.2.2.1 < ((((x.2.2.2.1.getD (x.1.2.2.1 : Int).toNat ([] : List Int))).length : Nat) : Int)))) then
        (leatref44_Told N x.2.1 x.2.2.1 x.1.2.2.1 (IntKind.wrap .i64 (x.1.2.1 * x.1.2.2.2.2.2.2.2.2.1)) (IntKind.wrap .i64 ((IntKind.wrap .i64 (x.1.2.1 * x.1.2.2.2.2.2.2.2.2.1)) + x.1.2.1))).bind fun r0 =>
        bif (! (((x.2.2.2.1.getD (x.1.2.2.1 : Int).toNat ([] : List Int)).getD (x.1.2.2.2.2.2.2.2.2.1 : Int).toNat 0) == r0)) then
          some (.inl ((false, ()), ()))
        else
          bif ((decide (x.1.2.2.2.2.1 < 0)) == false) then
            bif ((decide ((0 : Int) ≤ x.1.2.2.1)) && (decide (x.1.2.2.1 < (((x.2.2.2.1).length : Nat) : Int)))) then
              bif ((decide ((0 : Int) ≤ x.1.2.2.2.2.2.2.2.2.1)) && (decide (x.1.2.2.2.2.2.2.2.2.1 < ((((x.2.2.2.1.getD (x.1.2.2.1 : Int).toNat ([] : List Int))).length : Nat) : Int)))) then
                bif (decide (x.1.2.2.2.1 < ((x.2.2.2.1.getD (x.1.2.2.1 : Int).toNat ([] : List Int)).getD (x.1.2.2.2.2.2.2.2.2.1 : Int).toNat 0))) then
                  leatlaw44_MeterSeries_L14_j1 N F x
                else
                  F ((x.1.1, (x.1.2.1, (x.1.2.2.1, (x.1.2.2.2.1, (x.1.2.2.2.2.1, (x.1.2.2.2.2.2.1, (x.1.2.2.2.2.2.2.1, (x.1.2.2.2.2.2.2.2.1, ((IntKind.wrap .i64 (x.1.2.2.2.2.2.2.2.2.1 + 1)), ()))))))))), (x.2.1, (x.2.2.1, (x.2.2.2.1, ()))))
              else
                none
            else
              none
          else
            leatlaw44_MeterSeries_L14_j1 N F x
      else
        none
    else
      none
  else
    some (.inr ((x.1.1, (x.1.2.1, (x.1.2.2.1, (x.1.2.2.2.1, (x.1.2.2.2.2.1, (x.1.2.2.2.2.2.1, (x.1.2.2.2.2.2.2.1, ()))))))), (x.2.1, (x.2.2.1, (x.2.2.2.1, ())))))

def leatlaw44_MeterSeries_L8 (N : Nat) (F : ((Int × (Int × (Int × (Int × Unit)))) × ((List (Int × (Int × (Int × (Int × (Int × Int)))))) × ((List Int) × ((List (List Int)) × Unit)))) → Option (((Bool × Unit) × Unit) ⊕ (Unit × Unit))) (x : ((Int × (Int × (Int × (Int × Unit)))) × ((List (Int × (Int × (Int × (Int × (Int × Int)))))) × ((List Int) × ((List (List Int)) × Unit))))) : Option (((Bool × Unit) × Unit) ⊕ (Unit × Unit)) :=
  bif (decide (x.1.2.2.2.1 < x.1.2.2.1)) then
    bif ((decide ((0 : Int) ≤ x.1.2.2.2.1)) && (decide (x.1.2.2.2.1 < (((x.2.2.2.1).length : Nat) : Int)))) then
      bif (! (((((x.2.2.2.1.getD (x.1.2.2.2.1 : Int).toNat ([] : List Int))).length : Nat) : Int) == (imx x.1.1 0))) then
        some (.inl ((false, ()), ()))
      else
        bif ((decide ((0 : Int) ≤ x.1.2.2.2.1)) && (decide (x.1.2.2.2.1 < (((x.2.2.2.1).length : Nat) : Int)))) then
          (iter (leatlaw44_MeterSeries_L14 N) N ((x.1.1, (x.1.2.1, (x.1.2.2.2.1, (0, ((-1), (x.1.2.2.1, (x.1.2.2.2.1, (((((x.2.2.2.1.getD (x.1.2.2.2.1 : Int).toNat ([] : List Int))).length : Nat) : Int), (0, ()))))))))), (x.2.1, (x.2.2.1, (x.2.2.2.1, ()))))).bind fun r0 =>
          match r0 with
          | .inl r1 =>
            some (.inl ((r1.1.1, ()), ()))
          | .inr r2 =>
            bif ((decide ((0 : Int) ≤ r2.1.2.2.1)) && (decide (r2.1.2.2.1 < (((r2.2.2.2.1).length : Nat) : Int)))) then
              (meter_Peak N (r2.2.2.2.1.getD (r2.1.2.2.1 : Int).toNat ([] : List Int))).bind fun r3 =>
              bif ((! (r3.1 == r2.1.2.2.2.2.1)) == false) then
                bif (! (r3.2 == r2.1.2.2.2.1)) then
                  some (.inl ((false, ()), ()))
                else
                  F ((r2.1.1, (r2.1.2.1, (r2.1.2.2.2.2.2.1, ((IntKind.wrap .i64 (r2.1.2.2.2.2.2.2.1 + 1)), ())))), (r2.2.1, (r2.2.2.1, (r2.2.2.2.1, ()))))
              else
                some (.inl ((false, ()), ()))
            else
              none
        else
          none
    else
      none
  else
    some (.inr ((), ()))

def leatlaw44_MeterSeries (N : Nat) (a0 : (List (Int × (Int × (Int × (Int × (Int × Int))))))) (a1 : (List Int)) (a2 : (Int × Int)) : Option Bool :=
  bif ((decide ((0 : Int) ≤ (imn (((a0).length : Nat) : Int) 60))) && (decide ((imn (((a0).length : Nat) : Int) 60) ≤ (((a0).length : Nat) : Int)))) then
    bif ((decide ((0 : Int) ≤ (imn (((a1).length : Nat) : Int) 5))) && (decide ((imn (((a1).length : Nat) : Int) 5) ≤ (((a1).length : Nat) : Int)))) then
      (meter_Series N ((a2.1, ((imx (-5) (imn a2.2 12)), ())), ((cutL a0 0 (imn (((a0).length : Nat) : Int) 60)), ((cutL a1 0 (imn (((a1).length : Nat) : Int) 5)), ())))).bind fun r0 =>
      bif ((! ((((r0.2.1).length : Nat) : Int) == ((((cutL a1 0 (imn (((a1).length : Nat) : Int) 5))).length : Nat) : Int))) == false) then
        bif (decide ((0 : Int) ≤ ((((cutL a1 0 (imn (((a1).length : Nat) : Int) 5))).length : Nat) : Int))) then
          (meter_Series N ((5, (5, ())), ((cutL a0 0 (imn (((a0).length : Nat) : Int) 60)), ((cutL (cutL a1 0 (imn (((a1).length : Nat) : Int) 5)) 0 0), ())))).bind fun r1 =>
          bif (! ((((r1.2.1).length : Nat) : Int) == 0)) then
            some false
          else
            (iter (leatlaw44_MeterSeries_L8 N) N (((imx (-5) (imn a2.2 12)), ((imn (imx a2.1 1) 1099511627776), ((((r0.2.1).length : Nat) : Int), (0, ())))), ((cutL a0 0 (imn (((a0).length : Nat) : Int) 60)), ((cutL a1 0 (imn (((a1).length : Nat) : Int) 5)), (r0.2.1, ()))))).bind fun r2 =>
            match r2 with
            | .inl r3 =>
              some r3.1.1
            | .inr _ =>
              (leatlaw44_works N).bind fun r5 =>
              some r5
        else
          none
      else
        some false
    else
      none
  else
    none
end Go.Proofs.Ythgingjebobhaaa.W
