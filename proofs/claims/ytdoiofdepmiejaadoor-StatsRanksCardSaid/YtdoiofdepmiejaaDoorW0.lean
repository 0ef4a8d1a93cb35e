/- The functions of the seat, as the evaluator tells them: the texts alone. Printed by genW.py. -/
import Derived.Test.YtdoiofdepmiejaaDoorEvT
import Derived.Test.YtdoiofdepmiejaaDoorPNumC
import Derived.Test.YtdoiofdepmiejaaDoorPSortC
import Derived.Test.YtdoiofdepmiejaaDoorPTextC
namespace Go.Proofs.YtdoiofdepmiejaaDoor.W
open Go.Ev Go.RowKit
def stats_numbers (_N : Nat) (a0 : (List Int)) : Option ByteArray := numT a0
def strings_Repeat (_N : Nat) (a0 : ByteArray) (a1 : Int) : Option ByteArray := repT a0 a1
def slices_Sort_int64_int64 (N : Nat) (x : (Unit × ((List Int) × Unit))) : Option (Unit × ((List Int) × Unit)) := sortT N x
def leatref41_Text (_N : Nat) (a0 : Int) : Option ByteArray := textT a0

def leatref52_sorted_L6 (_N : Nat) (F : ((Int × (Int × Unit)) × ((List Int) × ((List Int) × Unit))) → Option ((Int × (Int × Unit)) × ((List Int) × ((List Int) × Unit)))) (x : ((Int × (Int × Unit)) × ((List Int) × ((List Int) × Unit)))) : Option ((Int × (Int × Unit)) × ((List Int) × ((List Int) × Unit))) :=
  bif ((decide (x.1.2.1 < (((x.2.2.1).length : Nat) : Int))) == true) then
    bif ((decide ((0 : Int) ≤ x.1.2.1)) && (decide (x.1.2.1 < (((x.2.2.1).length : Nat) : Int)))) then
      bif ((decide ((0 : Int) ≤ x.1.1)) && (decide (x.1.1 < (((x.2.1).length : Nat) : Int)))) then
        bif (decide ((x.2.2.1.getD (x.1.2.1 : Int).toNat 0) ≤ (x.2.1.getD (x.1.1 : Int).toNat 0))) then
          F ((x.1.1, ((IntKind.wrap .i64 (x.1.2.1 + 1)), ())), (x.2.1, (x.2.2.1, ())))
        else
          some ((x.1.1, (x.1.2.1, ())), (x.2.1, (x.2.2.1, ())))
      else
        none
    else
      none
  else
    some ((x.1.1, (x.1.2.1, ())), (x.2.1, (x.2.2.1, ())))

def leatref52_sorted_L3 (N : Nat) (F : ((Int × Unit) × ((List Int) × ((List Int) × Unit))) → Option (Unit × ((List Int) × Unit))) (x : ((Int × Unit) × ((List Int) × ((List Int) × Unit)))) : Option (Unit × ((List Int) × Unit)) :=
  bif (decide (x.1.1 < (((x.2.1).length : Nat) : Int))) then
    (iter (leatref52_sorted_L6 N) N ((x.1.1, (0, ())), (x.2.1, (x.2.2.1, ())))).bind fun r0 =>
    bif ((decide ((0 : Int) ≤ r0.1.2.1)) && (decide (r0.1.2.1 ≤ (((r0.2.2.1).length : Nat) : Int)))) then
      bif (decide ((((([] : List Int)).length + ((cutL r0.2.2.1 0 r0.1.2.1)).length) * 8) ≤ 140737488355328)) then
        bif ((decide ((0 : Int) ≤ r0.1.1)) && (decide (r0.1.1 < (((r0.2.1).length : Nat) : Int)))) then
          bif (decide (((((([] : List Int) ++ (cutL r0.2.2.1 0 r0.1.2.1))).length + (([(r0.2.1.getD (r0.1.1 : Int).toNat 0)] : List Int)).length) * 8) ≤ 140737488355328)) then
            bif ((decide ((0 : Int) ≤ r0.1.2.1)) && ((decide (r0.1.2.1 ≤ (((r0.2.2.1).length : Nat) : Int))) && (decide ((((r0.2.2.1).length : Nat) : Int) ≤ (((r0.2.2.1).length : Nat) : Int))))) then
              bif (decide ((((((([] : List Int) ++ (cutL r0.2.2.1 0 r0.1.2.1)) ++ ([(r0.2.1.getD (r0.1.1 : Int).toNat 0)] : List Int))).length + ((cutL r0.2.2.1 r0.1.2.1 (((r0.2.2.1).length : Nat) : Int))).length) * 8) ≤ 140737488355328)) then
                F (((IntKind.wrap .i64 (r0.1.1 + 1)), ()), (r0.2.1, ((((([] : List Int) ++ (cutL r0.2.2.1 0 r0.1.2.1)) ++ ([(r0.2.1.getD (r0.1.1 : Int).toNat 0)] : List Int)) ++ (cutL r0.2.2.1 r0.1.2.1 (((r0.2.2.1).length : Nat) : Int))), ())))
              else
                none
            else
              none
          else
            none
        else
          none
      else
        none
    else
      none
  else
    some ((), (x.2.2.1, ()))

def leatref52_sorted (N : Nat) (x : (Unit × ((List Int) × Unit))) : Option (Unit × ((List Int) × Unit)) :=
  (iter (leatref52_sorted_L3 N) N ((0, ()), (x.2.1, (([] : List Int), ())))).bind fun r0 =>
  some ((), (r0.2.1, ()))
def leatref02_Bits_L3 (_N : Nat) (F : ((Int × (Int × (Int × Unit))) × ((List Int) × Unit)) → Option (Unit × ((List Int) × Unit))) (x : ((Int × (Int × (Int × Unit))) × ((List Int) × Unit))) : Option (Unit × ((List Int) × Unit)) :=
  bif (decide (x.1.2.2.1 < x.1.2.1)) then
    bif (decide ((((x.2.1).length + (([(IntKind.wrap .i64 (Int.tmod x.1.1 2))] : List Int)).length) * 8) ≤ 140737488355328)) then
      F (((IntKind.wrap .u64 (Int.tdiv x.1.1 2)), (x.1.2.1, ((IntKind.wrap .i64 (x.1.2.2.1 + 1)), ()))), ((x.2.1 ++ ([(IntKind.wrap .i64 (Int.tmod x.1.1 2))] : List Int)), ()))
    else none
  else some ((), (x.2.1, ()))
def leatref02_Bits (N : Nat) (a0 : Int) (a1 : Int) : Option (List Int) :=
  (iter (leatref02_Bits_L3 N) N ((a0, (a1, (0, ()))), (([] : List Int), ()))).bind fun r0 =>
  some r0.2.1
def leatref02_Add_L4 (_N : Nat) (F : ((Int × (Int × Unit)) × ((List Int) × ((List Int) × ((List Int) × Unit)))) → Option ((Int × Unit) × ((List Int) × Unit))) (x : ((Int × (Int × Unit)) × ((List Int) × ((List Int) × ((List Int) × Unit))))) : Option ((Int × Unit) × ((List Int) × Unit)) :=
  bif ((decide (x.1.2.1 < (((x.2.1).length : Nat) : Int))) == false) then
    bif (decide (x.1.2.1 < (((x.2.2.1).length : Nat) : Int))) then
      bif (decide (x.1.2.1 < (((x.2.1).length : Nat) : Int))) then
        bif ((decide ((0 : Int) ≤ x.1.2.1)) && (decide (x.1.2.1 < (((x.2.1).length : Nat) : Int)))) then
          bif (decide (x.1.2.1 < (((x.2.2.1).length : Nat) : Int))) then
            bif ((decide ((0 : Int) ≤ x.1.2.1)) && (decide (x.1.2.1 < (((x.2.2.1).length : Nat) : Int)))) then
              bif (decide ((((x.2.2.2.1).length + (([(Int.tmod (IntKind.wrap .i64 ((IntKind.wrap .i64 (x.1.1 + (x.2.1.getD (x.1.2.1 : Int).toNat 0))) + (x.2.2.1.getD (x.1.2.1 : Int).toNat 0))) 2)] : List Int)).length) * 8) ≤ 140737488355328)) then
                F (((IntKind.wrap .i64 (Int.tdiv (IntKind.wrap .i64 ((IntKind.wrap .i64 (x.1.1 + (x.2.1.getD (x.1.2.1 : Int).toNat 0))) + (x.2.2.1.getD (x.1.2.1 : Int).toNat 0))) 2)), ((IntKind.wrap .i64 (x.1.2.1 + 1)), ())), (x.2.1, (x.2.2.1, ((x.2.2.2.1 ++ ([(Int.tmod (IntKind.wrap .i64 ((IntKind.wrap .i64 (x.1.1 + (x.2.1.getD (x.1.2.1 : Int).toNat 0))) + (x.2.2.1.getD (x.1.2.1 : Int).toNat 0))) 2)] : List Int)), ()))))
              else none
            else none
          else bif (decide ((((x.2.2.2.1).length + (([(Int.tmod (IntKind.wrap .i64 (x.1.1 + (x.2.1.getD (x.1.2.1 : Int).toNat 0))) 2)] : List Int)).length) * 8) ≤ 140737488355328)) then
            F (((IntKind.wrap .i64 (Int.tdiv (IntKind.wrap .i64 (x.1.1 + (x.2.1.getD (x.1.2.1 : Int).toNat 0))) 2)), ((IntKind.wrap .i64 (x.1.2.1 + 1)), ())), (x.2.1, (x.2.2.1, ((x.2.2.2.1 ++ ([(Int.tmod (IntKind.wrap .i64 (x.1.1 + (x.2.1.getD (x.1.2.1 : Int).toNat 0))) 2)] : List Int)), ()))))
          else none
        else none
      else bif (decide (x.1.2.1 < (((x.2.2.1).length : Nat) : Int))) then
        bif ((decide ((0 : Int) ≤ x.1.2.1)) && (decide (x.1.2.1 < (((x.2.2.1).length : Nat) : Int)))) then
          bif (decide ((((x.2.2.2.1).length + (([(Int.tmod (IntKind.wrap .i64 (x.1.1 + (x.2.2.1.getD (x.1.2.1 : Int).toNat 0))) 2)] : List Int)).length) * 8) ≤ 140737488355328)) then
            F (((IntKind.wrap .i64 (Int.tdiv (IntKind.wrap .i64 (x.1.1 + (x.2.2.1.getD (x.1.2.1 : Int).toNat 0))) 2)), ((IntKind.wrap .i64 (x.1.2.1 + 1)), ())), (x.2.1, (x.2.2.1, ((x.2.2.2.1 ++ ([(Int.tmod (IntKind.wrap .i64 (x.1.1 + (x.2.2.1.getD (x.1.2.1 : Int).toNat 0))) 2)] : List Int)), ()))))
          else none
        else none
      else bif (decide ((((x.2.2.2.1).length + (([(Int.tmod x.1.1 2)] : List Int)).length) * 8) ≤ 140737488355328)) then
        F (((IntKind.wrap .i64 (Int.tdiv x.1.1 2)), ((IntKind.wrap .i64 (x.1.2.1 + 1)), ())), (x.2.1, (x.2.2.1, ((x.2.2.2.1 ++ ([(Int.tmod x.1.1 2)] : List Int)), ()))))
      else none
    else some ((x.1.1, ()), (x.2.2.2.1, ()))
  else bif (decide (x.1.2.1 < (((x.2.1).length : Nat) : Int))) then
    bif ((decide ((0 : Int) ≤ x.1.2.1)) && (decide (x.1.2.1 < (((x.2.1).length : Nat) : Int)))) then
      bif (decide (x.1.2.1 < (((x.2.2.1).length : Nat) : Int))) then
        bif ((decide ((0 : Int) ≤ x.1.2.1)) && (decide (x.1.2.1 < (((x.2.2.1).length : Nat) : Int)))) then
          bif (decide ((((x.2.2.2.1).length + (([(Int.tmod (IntKind.wrap .i64 ((IntKind.wrap .i64 (x.1.1 + (x.2.1.getD (x.1.2.1 : Int).toNat 0))) + (x.2.2.1.getD (x.1.2.1 : Int).toNat 0))) 2)] : List Int)).length) * 8) ≤ 140737488355328)) then
            F (((IntKind.wrap .i64 (Int.tdiv (IntKind.wrap .i64 ((IntKind.wrap .i64 (x.1.1 + (x.2.1.getD (x.1.2.1 : Int).toNat 0))) + (x.2.2.1.getD (x.1.2.1 : Int).toNat 0))) 2)), ((IntKind.wrap .i64 (x.1.2.1 + 1)), ())), (x.2.1, (x.2.2.1, ((x.2.2.2.1 ++ ([(Int.tmod (IntKind.wrap .i64 ((IntKind.wrap .i64 (x.1.1 + (x.2.1.getD (x.1.2.1 : Int).toNat 0))) + (x.2.2.1.getD (x.1.2.1 : Int).toNat 0))) 2)] : List Int)), ()))))
          else none
        else none
      else bif (decide ((((x.2.2.2.1).length + (([(Int.tmod (IntKind.wrap .i64 (x.1.1 + (x.2.1.getD (x.1.2.1 : Int).toNat 0))) 2)] : List Int)).length) * 8) ≤ 140737488355328)) then
        F (((IntKind.wrap .i64 (Int.tdiv (IntKind.wrap .i64 (x.1.1 + (x.2.1.getD (x.1.2.1 : Int).toNat 0))) 2)), ((IntKind.wrap .i64 (x.1.2.1 + 1)), ())), (x.2.1, (x.2.2.1, ((x.2.2.2.1 ++ ([(Int.tmod (IntKind.wrap .i64 (x.1.1 + (x.2.1.getD (x.1.2.1 : Int).toNat 0))) 2)] : List Int)), ()))))
      else none
    else none
  else bif (decide (x.1.2.1 < (((x.2.2.1).length : Nat) : Int))) then
    bif ((decide ((0 : Int) ≤ x.1.2.1)) && (decide (x.1.2.1 < (((x.2.2.1).length : Nat) : Int)))) then
      bif (decide ((((x.2.2.2.1).length + (([(Int.tmod (IntKind.wrap .i64 (x.1.1 + (x.2.2.1.getD (x.1.2.1 : Int).toNat 0))) 2)] : List Int)).length) * 8) ≤ 140737488355328)) then
        F (((IntKind.wrap .i64 (Int.tdiv (IntKind.wrap .i64 (x.1.1 + (x.2.2.1.getD (x.1.2.1 : Int).toNat 0))) 2)), ((IntKind.wrap .i64 (x.1.2.1 + 1)), ())), (x.2.1, (x.2.2.1, ((x.2.2.2.1 ++ ([(Int.tmod (IntKind.wrap .i64 (x.1.1 + (x.2.2.1.getD (x.1.2.1 : Int).toNat 0))) 2)] : List Int)), ()))))
      else none
    else none
  else bif (decide ((((x.2.2.2.1).length + (([(Int.tmod x.1.1 2)] : List Int)).length) * 8) ≤ 140737488355328)) then
    F (((IntKind.wrap .i64 (Int.tdiv x.1.1 2)), ((IntKind.wrap .i64 (x.1.2.1 + 1)), ())), (x.2.1, (x.2.2.1, ((x.2.2.2.1 ++ ([(Int.tmod x.1.1 2)] : List Int)), ()))))
  else none
def leatref02_Add (N : Nat) (a0 : (List Int)) (a1 : (List Int)) : Option (List Int) :=
  (iter (leatref02_Add_L4 N) N ((0, (0, ())), (a0, (a1, (([] : List Int), ()))))).bind fun r0 =>
  bif (decide ((((r0.2.1).length + (([r0.1.1] : List Int)).length) * 8) ≤ 140737488355328)) then
    some (r0.2.1 ++ ([r0.1.1] : List Int))
  else none
def leatref02_Mul_L3 (N : Nat) (F : ((Int × Unit) × ((List Int) × ((List Int) × ((List Int) × Unit)))) → Option (Unit × ((List Int) × Unit))) (x : ((Int × Unit) × ((List Int) × ((List Int) × ((List Int) × Unit))))) : Option (Unit × ((List Int) × Unit)) :=
  bif (decide (x.1.1 < (((x.2.2.1).length : Nat) : Int))) then
    bif ((decide ((0 : Int) ≤ x.1.1)) && (decide (x.1.1 < (((x.2.2.1).length : Nat) : Int)))) then
      bif ((x.2.2.1.getD (x.1.1 : Int).toNat 0) == 1) then
        bif ((decide ((0 : Int) ≤ x.1.1)) && (((decide (x.1.1 = x.1.1)) && (decide ((x.1.1 * 8) ≤ 140737488355328))) && (decide (x.1.1 ≤ 140737488355328)))) then
          bif (decide (((((List.replicate (x.1.1 : Int).toNat (0 : Int))).length + (x.2.1).length) * 8) ≤ 140737488355328)) then
            (leatref02_Add N x.2.2.2.1 ((List.replicate (x.1.1 : Int).toNat (0 : Int)) ++ x.2.1)).bind fun r0 =>
            F (((IntKind.wrap .i64 (x.1.1 + 1)), ()), (x.2.1, (x.2.2.1, (r0, ()))))
          else none
        else none
      else F (((IntKind.wrap .i64 (x.1.1 + 1)), ()), (x.2.1, (x.2.2.1, (x.2.2.2.1, ()))))
    else none
  else some ((), (x.2.2.2.1, ()))
def leatref02_Mul (N : Nat) (a0 : (List Int)) (a1 : (List Int)) : Option (List Int) :=
  (iter (leatref02_Mul_L3 N) N ((0, ()), (a0, (a1, (([0] : List Int), ()))))).bind fun r0 =>
  some r0.2.1
def leatref02_Cmp_L2 (_N : Nat) (F : ((Int × Unit) × ((List Int) × ((List Int) × Unit))) → Option (((Int × Unit) × Unit) ⊕ (Unit × Unit))) (x : ((Int × Unit) × ((List Int) × ((List Int) × Unit)))) : Option (((Int × Unit) × Unit) ⊕ (Unit × Unit)) :=
  bif (decide ((0 : Int) ≤ x.1.1)) then
    bif (decide (x.1.1 < (((x.2.1).length : Nat) : Int))) then
      bif ((decide ((0 : Int) ≤ x.1.1)) && (decide (x.1.1 < (((x.2.1).length : Nat) : Int)))) then
        bif (decide (x.1.1 < (((x.2.2.1).length : Nat) : Int))) then
          bif ((decide ((0 : Int) ≤ x.1.1)) && (decide (x.1.1 < (((x.2.2.1).length : Nat) : Int)))) then
            bif (decide ((x.2.1.getD (x.1.1 : Int).toNat 0) < (x.2.2.1.getD (x.1.1 : Int).toNat 0))) then
              some (.inl (((-1), ()), ()))
            else bif (decide ((x.2.2.1.getD (x.1.1 : Int).toNat 0) < (x.2.1.getD (x.1.1 : Int).toNat 0))) then
              some (.inl ((1, ()), ()))
            else F (((IntKind.wrap .i64 (x.1.1 - 1)), ()), (x.2.1, (x.2.2.1, ())))
          else none
        else bif (decide ((x.2.1.getD (x.1.1 : Int).toNat 0) < 0)) then
          some (.inl (((-1), ()), ()))
        else bif (decide ((0 : Int) < (x.2.1.getD (x.1.1 : Int).toNat 0))) then
          some (.inl ((1, ()), ()))
        else F (((IntKind.wrap .i64 (x.1.1 - 1)), ()), (x.2.1, (x.2.2.1, ())))
      else none
    else bif (decide (x.1.1 < (((x.2.2.1).length : Nat) : Int))) then
      bif ((decide ((0 : Int) ≤ x.1.1)) && (decide (x.1.1 < (((x.2.2.1).length : Nat) : Int)))) then
        bif (decide ((0 : Int) < (x.2.2.1.getD (x.1.1 : Int).toNat 0))) then
          some (.inl (((-1), ()), ()))
        else bif (decide ((x.2.2.1.getD (x.1.1 : Int).toNat 0) < 0)) then
          some (.inl ((1, ()), ()))
        else F (((IntKind.wrap .i64 (x.1.1 - 1)), ()), (x.2.1, (x.2.2.1, ())))
      else none
    else F (((IntKind.wrap .i64 (x.1.1 - 1)), ()), (x.2.1, (x.2.2.1, ())))
  else some (.inr ((), ()))
def leatref02_Cmp (N : Nat) (a0 : (List Int)) (a1 : (List Int)) : Option Int :=
  (iter (leatref02_Cmp_L2 N) N (((IntKind.wrap .i64 ((if (((a1).length : Nat) : Int) > (((a0).length : Nat) : Int) then (((a1).length : Nat) : Int) else (((a0).length : Nat) : Int)) - 1)), ()), (a0, (a1, ())))).bind fun r0 =>
  match r0 with
  | .inl r1 =>
    some r1.1.1
  | .inr _ =>
    some 0
def leatref02_Sub_L4 (_N : Nat) (F : ((Int × (Int × Unit)) × ((List Int) × ((List Int) × ((List Int) × Unit)))) → Option (Unit × ((List Int) × Unit))) (x : ((Int × (Int × Unit)) × ((List Int) × ((List Int) × ((List Int) × Unit))))) : Option (Unit × ((List Int) × Unit)) :=
  bif (decide (x.1.2.1 < (((x.2.1).length : Nat) : Int))) then
    bif ((decide ((0 : Int) ≤ x.1.2.1)) && (decide (x.1.2.1 < (((x.2.1).length : Nat) : Int)))) then
      bif (decide (x.1.2.1 < (((x.2.2.1).length : Nat) : Int))) then
        bif ((decide ((0 : Int) ≤ x.1.2.1)) && (decide (x.1.2.1 < (((x.2.2.1).length : Nat) : Int)))) then
          bif (decide ((IntKind.wrap .i64 ((IntKind.wrap .i64 ((x.2.1.getD (x.1.2.1 : Int).toNat 0) - x.1.1)) - (x.2.2.1.getD (x.1.2.1 : Int).toNat 0))) < 0)) then
            bif (decide ((((x.2.2.2.1).length + (([(IntKind.wrap .i64 ((IntKind.wrap .i64 ((IntKind.wrap .i64 ((x.2.1.getD (x.1.2.1 : Int).toNat 0) - x.1.1)) - (x.2.2.1.getD (x.1.2.1 : Int).toNat 0))) + 2))] : List Int)).length) * 8) ≤ 140737488355328)) then
              F ((1, ((IntKind.wrap .i64 (x.1.2.1 + 1)), ())), (x.2.1, (x.2.2.1, ((x.2.2.2.1 ++ ([(IntKind.wrap .i64 ((IntKind.wrap .i64 ((IntKind.wrap .i64 ((x.2.1.getD (x.1.2.1 : Int).toNat 0) - x.1.1)) - (x.2.2.1.getD (x.1.2.1 : Int).toNat 0))) + 2))] : List Int)), ()))))
            else none
          else bif (decide ((((x.2.2.2.1).length + (([(IntKind.wrap .i64 ((IntKind.wrap .i64 ((x.2.1.getD (x.1.2.1 : Int).toNat 0) - x.1.1)) - (x.2.2.1.getD (x.1.2.1 : Int).toNat 0)))] : List Int)).length) * 8) ≤ 140737488355328)) then
            F ((0, ((IntKind.wrap .i64 (x.1.2.1 + 1)), ())), (x.2.1, (x.2.2.1, ((x.2.2.2.1 ++ ([(IntKind.wrap .i64 ((IntKind.wrap .i64 ((x.2.1.getD (x.1.2.1 : Int).toNat 0) - x.1.1)) - (x.2.2.1.getD (x.1.2.1 : Int).toNat 0)))] : List Int)), ()))))
          else none
        else none
      else bif (decide ((IntKind.wrap .i64 ((x.2.1.getD (x.1.2.1 : Int).toNat 0) - x.1.1)) < 0)) then
        bif (decide ((((x.2.2.2.1).length + (([(IntKind.wrap .i64 ((IntKind.wrap .i64 ((x.2.1.getD (x.1.2.1 : Int).toNat 0) - x.1.1)) + 2))] : List Int)).length) * 8) ≤ 140737488355328)) then
          F ((1, ((IntKind.wrap .i64 (x.1.2.1 + 1)), ())), (x.2.1, (x.2.2.1, ((x.2.2.2.1 ++ ([(IntKind.wrap .i64 ((IntKind.wrap .i64 ((x.2.1.getD (x.1.2.1 : Int).toNat 0) - x.1.1)) + 2))] : List Int)), ()))))
        else none
      else bif (decide ((((x.2.2.2.1).length + (([(IntKind.wrap .i64 ((x.2.1.getD (x.1.2.1 : Int).toNat 0) - x.1.1))] : List Int)).length) * 8) ≤ 140737488355328)) then
        F ((0, ((IntKind.wrap .i64 (x.1.2.1 + 1)), ())), (x.2.1, (x.2.2.1, ((x.2.2.2.1 ++ ([(IntKind.wrap .i64 ((x.2.1.getD (x.1.2.1 : Int).toNat 0) - x.1.1))] : List Int)), ()))))
      else none
    else none
  else some ((), (x.2.2.2.1, ()))
def leatref02_Sub (N : Nat) (a0 : (List Int)) (a1 : (List Int)) : Option (List Int) :=
  (iter (leatref02_Sub_L4 N) N ((0, (0, ())), (a0, (a1, (([] : List Int), ()))))).bind fun r0 =>
  some r0.2.1
def leatref02_Div_L4 (N : Nat) (F : ((Int × Unit) × ((List Int) × ((List Int) × ((List Int) × ((List Int) × Unit))))) → Option (Unit × ((List Int) × ((List Int) × Unit)))) (x : ((Int × Unit) × ((List Int) × ((List Int) × ((List Int) × ((List Int) × Unit)))))) : Option (Unit × ((List Int) × ((List Int) × Unit))) :=
  bif (decide ((0 : Int) ≤ x.1.1)) then
    bif ((decide ((0 : Int) ≤ x.1.1)) && (decide (x.1.1 < (((x.2.1).length : Nat) : Int)))) then
      bif (decide ((((([(x.2.1.getD (x.1.1 : Int).toNat 0)] : List Int)).length + (x.2.2.2.2.1).length) * 8) ≤ 140737488355328)) then
        (leatref02_Cmp N (([(x.2.1.getD (x.1.1 : Int).toNat 0)] : List Int) ++ x.2.2.2.2.1) x.2.2.1).bind fun r0 =>
        bif (decide ((0 : Int) ≤ r0)) then
          (leatref02_Sub N (([(x.2.1.getD (x.1.1 : Int).toNat 0)] : List Int) ++ x.2.2.2.2.1) x.2.2.1).bind fun r1 =>
          bif ((decide ((0 : Int) ≤ x.1.1)) && (decide (x.1.1 < (((x.2.2.2.1).length : Nat) : Int)))) then
            F (((IntKind.wrap .i64 (x.1.1 - 1)), ()), (x.2.1, (x.2.2.1, ((x.2.2.2.1.set (x.1.1 : Int).toNat 1), (r1, ())))))
          else none
        else F (((IntKind.wrap .i64 (x.1.1 - 1)), ()), (x.2.1, (x.2.2.1, (x.2.2.2.1, ((([(x.2.1.getD (x.1.1 : Int).toNat 0)] : List Int) ++ x.2.2.2.2.1), ())))))
      else none
    else none
  else some ((), (x.2.2.2.1, (x.2.2.2.2.1, ())))
def leatref02_Div (N : Nat) (a0 : (List Int)) (a1 : (List Int)) : Option ((List Int) × (List Int)) :=
  bif ((decide ((0 : Int) ≤ (((a0).length : Nat) : Int))) && (((decide ((((a0).length : Nat) : Int) = (((a0).length : Nat) : Int))) && (decide (((((a0).length : Nat) : Int) * 8) ≤ 140737488355328))) && (decide ((((a0).length : Nat) : Int) ≤ 140737488355328)))) then
    (iter (leatref02_Div_L4 N) N (((IntKind.wrap .i64 ((((a0).length : Nat) : Int) - 1)), ()), (a0, (a1, ((List.replicate ((((a0).length : Nat) : Int) : Int).toNat (0 : Int)), (([0] : List Int), ())))))).bind fun r0 =>
    some (r0.2.1, r0.2.2.1)
  else none
def leatref02_Num_L3 (_N : Nat) (F : ((Int × (Int × (Int × Unit))) × ((List Int) × Unit)) → Option ((Int × Unit) × Unit)) (x : ((Int × (Int × (Int × Unit))) × ((List Int) × Unit))) : Option ((Int × Unit) × Unit) :=
  bif (decide ((0 : Int) ≤ x.1.2.2.1)) then
    bif ((decide ((IntKind.wrap .i64 (x.1.1 + x.1.2.2.1)) < (((x.2.1).length : Nat) : Int))) == true) then
      bif ((decide ((0 : Int) ≤ (IntKind.wrap .i64 (x.1.1 + x.1.2.2.1)))) && (decide ((IntKind.wrap .i64 (x.1.1 + x.1.2.2.1)) < (((x.2.1).length : Nat) : Int)))) then
        bif ((x.2.1.getD ((IntKind.wrap .i64 (x.1.1 + x.1.2.2.1)) : Int).toNat 0) == 1) then
          F ((x.1.1, ((IntKind.wrap .u64 ((IntKind.wrap .u64 (x.1.2.1 * 2)) + 1)), ((IntKind.wrap .i64 (x.1.2.2.1 - 1)), ()))), (x.2.1, ()))
        else F ((x.1.1, ((IntKind.wrap .u64 (x.1.2.1 * 2)), ((IntKind.wrap .i64 (x.1.2.2.1 - 1)), ()))), (x.2.1, ()))
      else none
    else F ((x.1.1, ((IntKind.wrap .u64 (x.1.2.1 * 2)), ((IntKind.wrap .i64 (x.1.2.2.1 - 1)), ()))), (x.2.1, ()))
  else some ((x.1.2.1, ()), ())
def leatref02_Num (N : Nat) (a0 : (List Int)) (a1 : Int) : Option Int :=
  (iter (leatref02_Num_L3 N) N ((a1, (0, (63, ()))), (a0, ()))).bind fun r0 =>
  some r0.1.1
def leatref02_MulDiv (N : Nat) (a0 : Int) (a1 : Int) (a2 : Int) (a3 : Bool) : Option (Int × Int) :=
  bif ((decide (a0 < 0)) == false) then
    bif ((decide (a1 < 0)) == false) then
      bif (decide (a2 ≤ 0)) then
        some (0, 1)
      else (leatref02_Bits N (IntKind.wrap .u64 a0) 64).bind fun r0 =>
      (leatref02_Bits N (IntKind.wrap .u64 a1) 64).bind fun r1 =>
      (leatref02_Mul N r0 r1).bind fun r2 =>
      (leatref02_Bits N (IntKind.wrap .u64 a2) 64).bind fun r3 =>
      (leatref02_Div N r2 r3).bind fun r4 =>
      bif (a3 == true) then
        (leatref02_Cmp N r4.2 ([0] : List Int)).bind fun r5 =>
        bif (decide ((0 : Int) < r5)) then
          (leatref02_Add N r4.1 ([1] : List Int)).bind fun r6 =>
          (leatref02_Bits N 9223372036854775807 64).bind fun r7 =>
          (leatref02_Cmp N r6 r7).bind fun r8 =>
          bif (decide ((0 : Int) < r8)) then
            some (0, 8)
          else (leatref02_Num N r6 0).bind fun r9 =>
          some ((IntKind.wrap .i64 r9), 0)
        else (leatref02_Bits N 9223372036854775807 64).bind fun r10 =>
        (leatref02_Cmp N r4.1 r10).bind fun r11 =>
        bif (decide ((0 : Int) < r11)) then
          some (0, 8)
        else (leatref02_Num N r4.1 0).bind fun r12 =>
        some ((IntKind.wrap .i64 r12), 0)
      else (leatref02_Bits N 9223372036854775807 64).bind fun r13 =>
      (leatref02_Cmp N r4.1 r13).bind fun r14 =>
      bif (decide ((0 : Int) < r14)) then
        some (0, 8)
      else (leatref02_Num N r4.1 0).bind fun r15 =>
      some ((IntKind.wrap .i64 r15), 0)
    else some (0, 1)
  else some (0, 1)
def leatref52_Rank_j1 (N : Nat) (a0 : (List Int)) (a1 : Int) (p100 : Int) : Option (Int × Bool) :=
  (leatref02_MulDiv N (((a0).length : Nat) : Int) (imn (imx a1 1) p100) p100 true).bind fun r100 =>
  (leatref52_sorted N ((), (a0, ()))).bind fun r101 =>
  bif ((decide ((0 : Int) ≤ (IntKind.wrap .i64 (r100.1 - 1)))) && (decide ((IntKind.wrap .i64 (r100.1 - 1)) < (((r101.2.1).length : Nat) : Int)))) then
    some ((r101.2.1.getD ((IntKind.wrap .i64 (r100.1 - 1)) : Int).toNat 0), true)
  else
    none
def leatref52_Rank (N : Nat) (a0 : (List Int)) (a1 : Int) (a2 : Int) : Option (Int × Bool) :=
  bif ((((a0).length : Nat) : Int) == 0) then
    some (0, false)
  else
    bif (decide (a2 < 1)) then
      leatref52_Rank_j1 N a0 a1 1
    else
      leatref52_Rank_j1 N a0 a1 a2
def slices_Clone_int64_int64 (_N : Nat) (a0 : (List Int)) : Option ((List Int)) := if a0.length * 8 ≤ 140737488355328 then some a0 else none
def bits_Len64_tab0 : ByteArray := bytesL [0, 1, 2, 2, 3, 3, 3, 3, 4, 4, 4, 4, 4, 4, 4, 4, 5, 5, 5, 5, 5, 5, 5, 5, 5, 5, 5, 5, 5, 5, 5, 5, 6, 6, 6, 6, 6, 6, 6, 6, 6, 6, 6, 6, 6, 6, 6, 6, 6, 6, 6, 6, 6, 6, 6, 6, 6, 6, 6, 6, 6, 6, 6, 6, 7, 7, 7, 7, 7, 7, 7, 7, 7, 7, 7, 7, 7, 7, 7, 7, 7, 7, 7, 7, 7, 7, 7, 7, 7, 7, 7, 7, 7, 7, 7, 7, 7, 7, 7, 7, 7, 7, 7, 7, 7, 7, 7, 7, 7, 7, 7, 7, 7, 7, 7, 7, 7, 7, 7, 7, 7, 7, 7, 7, 7, 7, 7, 7, 8, 8, 8, 8, 8, 8, 8, 8, 8, 8, 8, 8, 8, 8, 8, 8, 8, 8, 8, 8, 8, 8, 8, 8, 8, 8, 8, 8, 8, 8, 8, 8, 8, 8, 8, 8, 8, 8, 8, 8, 8, 8, 8, 8, 8, 8, 8, 8, 8, 8, 8, 8, 8, 8, 8, 8, 8, 8, 8, 8, 8, 8, 8, 8, 8, 8, 8, 8, 8, 8, 8, 8, 8, 8, 8, 8, 8, 8, 8, 8, 8, 8, 8, 8, 8, 8, 8, 8, 8, 8, 8, 8, 8, 8, 8, 8, 8, 8, 8, 8, 8, 8, 8, 8, 8, 8, 8, 8, 8, 8, 8, 8, 8, 8, 8, 8, 8, 8, 8, 8, 8, 8, 8, 8, 8, 8, 8, 8]
def bits_Len64 (_N : Nat) (a0 : Int) : Option Int :=
  bif (decide ((4294967296 : Int) ≤ a0)) then
    bif (decide ((65536 : Int) ≤ (Int.fdiv a0 4294967296))) then
      bif (decide ((256 : Int) ≤ (Int.fdiv (Int.fdiv a0 4294967296) 65536))) then
        bif ((decide ((0 : Int) ≤ (IntKind.wrap .u8 (Int.fdiv (Int.fdiv (Int.fdiv a0 4294967296) 65536) 256)))) && (decide ((IntKind.wrap .u8 (Int.fdiv (Int.fdiv (Int.fdiv a0 4294967296) 65536) 256)) < (((bits_Len64_tab0).size : Nat) : Int)))) then
          some (IntKind.wrap .i64 (56 + (IntKind.wrap .i64 (byteAt bits_Len64_tab0 (IntKind.wrap .u8 (Int.fdiv (Int.fdiv (Int.fdiv a0 4294967296) 65536) 256))))))
        else none
      else bif ((decide ((0 : Int) ≤ (IntKind.wrap .u8 (Int.fdiv (Int.fdiv a0 4294967296) 65536)))) && (decide ((IntKind.wrap .u8 (Int.fdiv (Int.fdiv a0 4294967296) 65536)) < (((bits_Len64_tab0).size : Nat) : Int)))) then
        some (IntKind.wrap .i64 (48 + (IntKind.wrap .i64 (byteAt bits_Len64_tab0 (IntKind.wrap .u8 (Int.fdiv (Int.fdiv a0 4294967296) 65536))))))
      else none
    else bif (decide ((256 : Int) ≤ (Int.fdiv a0 4294967296))) then
      bif ((decide ((0 : Int) ≤ (IntKind.wrap .u8 (Int.fdiv (Int.fdiv a0 4294967296) 256)))) && (decide ((IntKind.wrap .u8 (Int.fdiv (Int.fdiv a0 4294967296) 256)) < (((bits_Len64_tab0).size : Nat) : Int)))) then
        some (IntKind.wrap .i64 (40 + (IntKind.wrap .i64 (byteAt bits_Len64_tab0 (IntKind.wrap .u8 (Int.fdiv (Int.fdiv a0 4294967296) 256))))))
      else none
    else bif ((decide ((0 : Int) ≤ (IntKind.wrap .u8 (Int.fdiv a0 4294967296)))) && (decide ((IntKind.wrap .u8 (Int.fdiv a0 4294967296)) < (((bits_Len64_tab0).size : Nat) : Int)))) then
      some (IntKind.wrap .i64 (32 + (IntKind.wrap .i64 (byteAt bits_Len64_tab0 (IntKind.wrap .u8 (Int.fdiv a0 4294967296))))))
    else none
  else bif (decide ((65536 : Int) ≤ a0)) then
    bif (decide ((256 : Int) ≤ (Int.fdiv a0 65536))) then
      bif ((decide ((0 : Int) ≤ (IntKind.wrap .u8 (Int.fdiv (Int.fdiv a0 65536) 256)))) && (decide ((IntKind.wrap .u8 (Int.fdiv (Int.fdiv a0 65536) 256)) < (((bits_Len64_tab0).size : Nat) : Int)))) then
        some (IntKind.wrap .i64 (24 + (IntKind.wrap .i64 (byteAt bits_Len64_tab0 (IntKind.wrap .u8 (Int.fdiv (Int.fdiv a0 65536) 256))))))
      else none
    else bif ((decide ((0 : Int) ≤ (IntKind.wrap .u8 (Int.fdiv a0 65536)))) && (decide ((IntKind.wrap .u8 (Int.fdiv a0 65536)) < (((bits_Len64_tab0).size : Nat) : Int)))) then
      some (IntKind.wrap .i64 (16 + (IntKind.wrap .i64 (byteAt bits_Len64_tab0 (IntKind.wrap .u8 (Int.fdiv a0 65536))))))
    else none
  else bif (decide ((256 : Int) ≤ a0)) then
    bif ((decide ((0 : Int) ≤ (IntKind.wrap .u8 (Int.fdiv a0 256)))) && (decide ((IntKind.wrap .u8 (Int.fdiv a0 256)) < (((bits_Len64_tab0).size : Nat) : Int)))) then
      some (IntKind.wrap .i64 (8 + (IntKind.wrap .i64 (byteAt bits_Len64_tab0 (IntKind.wrap .u8 (Int.fdiv a0 256))))))
    else none
  else bif ((decide ((0 : Int) ≤ (IntKind.wrap .u8 a0))) && (decide ((IntKind.wrap .u8 a0) < (((bits_Len64_tab0).size : Nat) : Int)))) then
    some (IntKind.wrap .i64 (0 + (IntKind.wrap .i64 (byteAt bits_Len64_tab0 (IntKind.wrap .u8 a0)))))
  else none

def stats_sorted_int64 (N : Nat) (a0 : (List Int)) : Option (List Int) :=
  (slices_Clone_int64_int64 N a0).bind fun r0 =>
  (slices_Sort_int64_int64 N ((), (r0, ()))).bind fun r1 =>
  some r1.2.1
def sat_Clamp (_N : Nat) (a0 : Int) (a1 : Int) (a2 : Int) : Option Int :=
  some (if (if a2 < a0 then a2 else a0) > a1 then (if a2 < a0 then a2 else a0) else a1)
def bits_Mul64 (_N : Nat) (a0 : Int) (a1 : Int) : Option (Int × Int) :=
  some ((IntKind.wrap .u64 ((IntKind.wrap .u64 ((IntKind.wrap .u64 ((Int.fdiv a0 4294967296) * (Int.fdiv a1 4294967296))) + (Int.fdiv (IntKind.wrap .u64 ((IntKind.wrap .u64 ((Int.fdiv a0 4294967296) * (bits .and .u64 a1 4294967295))) + (Int.fdiv (IntKind.wrap .u64 ((bits .and .u64 a0 4294967295) * (bits .and .u64 a1 4294967295))) 4294967296))) 4294967296))) + (Int.fdiv (IntKind.wrap .u64 ((bits .and .u64 (IntKind.wrap .u64 ((IntKind.wrap .u64 ((Int.fdiv a0 4294967296) * (bits .and .u64 a1 4294967295))) + (Int.fdiv (IntKind.wrap .u64 ((bits .and .u64 a0 4294967295) * (bits .and .u64 a1 4294967295))) 4294967296))) 4294967295) + (IntKind.wrap .u64 ((bits .and .u64 a0 4294967295) * (Int.fdiv a1 4294967296))))) 4294967296))), (IntKind.wrap .u64 (a0 * a1)))
def wide_Mul (N : Nat) (a0 : Int) (a1 : Int) : Option (Int × Int) :=
  (bits_Mul64 N a0 a1).bind fun r0 =>
  some r0
def bits_LeadingZeros64 (N : Nat) (a0 : Int) : Option Int :=
  (bits_Len64 N a0).bind fun r0 =>
  some (IntKind.wrap .i64 (64 - r0))
def bits_Div64_L17 (_N : Nat) (F : ((Int × (Int × (Int × (Int × (Int × (Int × (Int × (Int × (Int × Unit))))))))) × Unit) → Option ((Int × (Int × (Int × (Int × (Int × (Int × (Int × (Int × Unit)))))))) × Unit)) (x : ((Int × (Int × (Int × (Int × (Int × (Int × (Int × (Int × (Int × Unit))))))))) × Unit)) : Option ((Int × (Int × (Int × (Int × (Int × (Int × (Int × (Int × Unit)))))))) × Unit) :=
  bif ((decide ((4294967296 : Int) ≤ x.1.2.2.2.2.2.2.2.1)) == false) then
    bif (decide ((IntKind.wrap .u64 ((IntKind.wrap .u64 (4294967296 * x.1.2.2.2.2.2.2.2.2.1)) + x.1.2.2.2.2.2.1)) < (IntKind.wrap .u64 (x.1.2.2.2.2.2.2.2.1 * x.1.2.2.2.1)))) then
      bif (decide ((4294967296 : Int) ≤ (IntKind.wrap .u64 (x.1.2.2.2.2.2.2.2.2.1 + x.1.2.2.1)))) then
        some ((x.1.1, (x.1.2.1, (x.1.2.2.1, (x.1.2.2.2.1, (x.1.2.2.2.2.1, (x.1.2.2.2.2.2.1, (x.1.2.2.2.2.2.2.1, ((IntKind.wrap .u64 (x.1.2.2.2.2.2.2.2.1 - 1)), ())))))))), ())
      else F ((x.1.1, (x.1.2.1, (x.1.2.2.1, (x.1.2.2.2.1, (x.1.2.2.2.2.1, (x.1.2.2.2.2.2.1, (x.1.2.2.2.2.2.2.1, ((IntKind.wrap .u64 (x.1.2.2.2.2.2.2.2.1 - 1)), ((IntKind.wrap .u64 (x.1.2.2.2.2.2.2.2.2.1 + x.1.2.2.1)), ()))))))))), ())
    else some ((x.1.1, (x.1.2.1, (x.1.2.2.1, (x.1.2.2.2.1, (x.1.2.2.2.2.1, (x.1.2.2.2.2.2.1, (x.1.2.2.2.2.2.2.1, (x.1.2.2.2.2.2.2.2.1, ())))))))), ())
  else bif (decide ((4294967296 : Int) ≤ (IntKind.wrap .u64 (x.1.2.2.2.2.2.2.2.2.1 + x.1.2.2.1)))) then
    some ((x.1.1, (x.1.2.1, (x.1.2.2.1, (x.1.2.2.2.1, (x.1.2.2.2.2.1, (x.1.2.2.2.2.2.1, (x.1.2.2.2.2.2.2.1, ((IntKind.wrap .u64 (x.1.2.2.2.2.2.2.2.1 - 1)), ())))))))), ())
  else F ((x.1.1, (x.1.2.1, (x.1.2.2.1, (x.1.2.2.2.1, (x.1.2.2.2.2.1, (x.1.2.2.2.2.2.1, (x.1.2.2.2.2.2.2.1, ((IntKind.wrap .u64 (x.1.2.2.2.2.2.2.2.1 - 1)), ((IntKind.wrap .u64 (x.1.2.2.2.2.2.2.2.2.1 + x.1.2.2.1)), ()))))))))), ())
def bits_Div64_L24 (_N : Nat) (F : ((Int × (Int × (Int × (Int × (Int × (Int × (Int × (Int × (Int × Unit))))))))) × Unit) → Option ((Int × (Int × (Int × (Int × (Int × (Int × Unit)))))) × Unit)) (x : ((Int × (Int × (Int × (Int × (Int × (Int × (Int × (Int × (Int × Unit))))))))) × Unit)) : Option ((Int × (Int × (Int × (Int × (Int × (Int × Unit)))))) × Unit) :=
  bif ((decide ((4294967296 : Int) ≤ x.1.2.2.2.2.2.2.2.2.1)) == false) then
    bif (decide ((IntKind.wrap .u64 ((IntKind.wrap .u64 (4294967296 * x.1.2.2.2.2.2.2.1)) + x.1.2.2.2.2.1)) < (IntKind.wrap .u64 (x.1.2.2.2.2.2.2.2.2.1 * x.1.2.2.2.1)))) then
      bif (decide ((4294967296 : Int) ≤ (IntKind.wrap .u64 (x.1.2.2.2.2.2.2.1 + x.1.2.2.1)))) then
        some ((x.1.1, (x.1.2.1, (x.1.2.2.2.2.1, (x.1.2.2.2.2.2.1, (x.1.2.2.2.2.2.2.2.1, ((IntKind.wrap .u64 (x.1.2.2.2.2.2.2.2.2.1 - 1)), ())))))), ())
      else F ((x.1.1, (x.1.2.1, (x.1.2.2.1, (x.1.2.2.2.1, (x.1.2.2.2.2.1, (x.1.2.2.2.2.2.1, ((IntKind.wrap .u64 (x.1.2.2.2.2.2.2.1 + x.1.2.2.1)), (x.1.2.2.2.2.2.2.2.1, ((IntKind.wrap .u64 (x.1.2.2.2.2.2.2.2.2.1 - 1)), ()))))))))), ())
    else some ((x.1.1, (x.1.2.1, (x.1.2.2.2.2.1, (x.1.2.2.2.2.2.1, (x.1.2.2.2.2.2.2.2.1, (x.1.2.2.2.2.2.2.2.2.1, ())))))), ())
  else bif (decide ((4294967296 : Int) ≤ (IntKind.wrap .u64 (x.1.2.2.2.2.2.2.1 + x.1.2.2.1)))) then
    some ((x.1.1, (x.1.2.1, (x.1.2.2.2.2.1, (x.1.2.2.2.2.2.1, (x.1.2.2.2.2.2.2.2.1, ((IntKind.wrap .u64 (x.1.2.2.2.2.2.2.2.2.1 - 1)), ())))))), ())
  else F ((x.1.1, (x.1.2.1, (x.1.2.2.1, (x.1.2.2.2.1, (x.1.2.2.2.2.1, (x.1.2.2.2.2.2.1, ((IntKind.wrap .u64 (x.1.2.2.2.2.2.2.1 + x.1.2.2.1)), (x.1.2.2.2.2.2.2.2.1, ((IntKind.wrap .u64 (x.1.2.2.2.2.2.2.2.2.1 - 1)), ()))))))))), ())
def bits_Div64 (N : Nat) (a0 : Int) (a1 : Int) (a2 : Int) : Option (Int × Int) :=
  bif (a2 == 0) then
    none
  else bif (decide (a2 ≤ a0)) then
    none
  else bif (a0 == 0) then
    bif (!(decide (a2 = 0))) then
      bif (!(decide (a2 = 0))) then
        some ((IntKind.wrap .u64 (Int.tdiv a1 a2)), (Int.tmod a1 a2))
      else none
    else none
  else (bits_LeadingZeros64 N a2).bind fun r0 =>
  bif (!(decide ((IntKind.wrap .u64 r0) < 0))) then
    bif (!(decide ((IntKind.wrap .u64 r0) < 0))) then
      bif (!(decide ((IntKind.wrap .u64 (64 - (IntKind.wrap .u64 r0))) < 0))) then
        bif (!(decide ((IntKind.wrap .u64 r0) < 0))) then
          bif (!(decide ((Int.fdiv (IntKind.wrap .u64 (a2 * 2 ^ (min ((IntKind.wrap .u64 r0)).toNat 64))) 4294967296) = 0))) then
            (iter (bits_Div64_L17 N) N (((IntKind.wrap .u64 (a2 * 2 ^ (min ((IntKind.wrap .u64 r0)).toNat 64))), ((IntKind.wrap .u64 r0), ((Int.fdiv (IntKind.wrap .u64 (a2 * 2 ^ (min ((IntKind.wrap .u64 r0)).toNat 64))) 4294967296), ((bits .and .u64 (IntKind.wrap .u64 (a2 * 2 ^ (min ((IntKind.wrap .u64 r0)).toNat 64))) 4294967295), ((bits .or .u64 (IntKind.wrap .u64 (a0 * 2 ^ (min ((IntKind.wrap .u64 r0)).toNat 64))) (Int.fdiv a1 (2 ^ (min ((IntKind.wrap .u64 (64 - (IntKind.wrap .u64 r0)))).toNat 64)))), ((Int.fdiv (IntKind.wrap .u64 (a1 * 2 ^ (min ((IntKind.wrap .u64 r0)).toNat 64))) 4294967296), ((bits .and .u64 (IntKind.wrap .u64 (a1 * 2 ^ (min ((IntKind.wrap .u64 r0)).toNat 64))) 4294967295), ((IntKind.wrap .u64 (Int.tdiv (bits .or .u64 (IntKind.wrap .u64 (a0 * 2 ^ (min ((IntKind.wrap .u64 r0)).toNat 64))) (Int.fdiv a1 (2 ^ (min ((IntKind.wrap .u64 (64 - (IntKind.wrap .u64 r0)))).toNat 64)))) (Int.fdiv (IntKind.wrap .u64 (a2 * 2 ^ (min ((IntKind.wrap .u64 r0)).toNat 64))) 4294967296))), ((IntKind.wrap .u64 ((bits .or .u64 (IntKind.wrap .u64 (a0 * 2 ^ (min ((IntKind.wrap .u64 r0)).toNat 64))) (Int.fdiv a1 (2 ^ (min ((IntKind.wrap .u64 (64 - (IntKind.wrap .u64 r0)))).toNat 64)))) - (IntKind.wrap .u64 ((IntKind.wrap .u64 (Int.tdiv (bits .or .u64 (IntKind.wrap .u64 (a0 * 2 ^ (min ((IntKind.wrap .u64 r0)).toNat 64))) (Int.fdiv a1 (2 ^ (min ((IntKind.wrap .u64 (64 - (IntKind.wrap .u64 r0)))).toNat 64)))) (Int.fdiv (IntKind.wrap .u64 (a2 * 2 ^ (min ((IntKind.wrap .u64 r0)).toNat 64))) 4294967296))) * (Int.fdiv (IntKind.wrap .u64 (a2 * 2 ^ (min ((IntKind.wrap .u64 r0)).toNat 64))) 4294967296))))), ()))))))))), ())).bind fun r1 =>
            bif (!(decide (r1.1.2.2.1 = 0))) then
              (iter (bits_Div64_L24 N) N ((r1.1.1, (r1.1.2.1, (r1.1.2.2.1, (r1.1.2.2.2.1, (r1.1.2.2.2.2.2.2.1, (r1.1.2.2.2.2.2.2.2.1, ((IntKind.wrap .u64 ((IntKind.wrap .u64 ((IntKind.wrap .u64 ((IntKind.wrap .u64 (r1.1.2.2.2.2.1 * 4294967296)) + r1.1.2.2.2.2.2.1)) - (IntKind.wrap .u64 (r1.1.2.2.2.2.2.2.2.1 * r1.1.1)))) - (IntKind.wrap .u64 ((IntKind.wrap .u64 (Int.tdiv (IntKind.wrap .u64 ((IntKind.wrap .u64 ((IntKind.wrap .u64 (r1.1.2.2.2.2.1 * 4294967296)) + r1.1.2.2.2.2.2.1)) - (IntKind.wrap .u64 (r1.1.2.2.2.2.2.2.2.1 * r1.1.1)))) r1.1.2.2.1)) * r1.1.2.2.1)))), ((IntKind.wrap .u64 ((IntKind.wrap .u64 ((IntKind.wrap .u64 (r1.1.2.2.2.2.1 * 4294967296)) + r1.1.2.2.2.2.2.1)) - (IntKind.wrap .u64 (r1.1.2.2.2.2.2.2.2.1 * r1.1.1)))), ((IntKind.wrap .u64 (Int.tdiv (IntKind.wrap .u64 ((IntKind.wrap .u64 ((IntKind.wrap .u64 (r1.1.2.2.2.2.1 * 4294967296)) + r1.1.2.2.2.2.2.1)) - (IntKind.wrap .u64 (r1.1.2.2.2.2.2.2.2.1 * r1.1.1)))) r1.1.2.2.1)), ()))))))))), ())).bind fun r2 =>
              bif (!(decide (r2.1.2.1 < 0))) then
                some ((IntKind.wrap .u64 ((IntKind.wrap .u64 (r2.1.2.2.2.1 * 4294967296)) + r2.1.2.2.2.2.2.1)), (Int.fdiv (IntKind.wrap .u64 ((IntKind.wrap .u64 ((IntKind.wrap .u64 (r2.1.2.2.2.2.1 * 4294967296)) + r2.1.2.2.1)) - (IntKind.wrap .u64 (r2.1.2.2.2.2.2.1 * r2.1.1)))) (2 ^ (min (r2.1.2.1).toNat 64))))
              else none
            else none
          else none
        else none
      else none
    else none
  else none
def wide_Div (N : Nat) (a0 : (Int × Int)) (a1 : Int) : Option ((Int × Int) × Int) :=
  bif (a1 == 0) then
    some ((0, 0), 0)
  else bif (!(decide (a1 = 0))) then
    bif (!(decide (a1 = 0))) then
      (bits_Div64 N (Int.tmod a0.1 a1) a0.2 a1).bind fun r0 =>
      some (((IntKind.wrap .u64 (Int.tdiv a0.1 a1)), r0.1), r0.2)
    else none
  else none
def wide_muldiv (N : Nat) (a0 : Int) (a1 : Int) (a2 : Int) : Option ((Int × Int) × (Bool × Int)) :=
  bif ((decide (a0 < 0)) == false) then
    bif ((decide (a1 < 0)) == false) then
      bif (decide (a2 ≤ 0)) then
        some ((0, 0), (false, 1))
      else (wide_Mul N (IntKind.wrap .u64 a0) (IntKind.wrap .u64 a1)).bind fun r0 =>
      (wide_Div N r0 (IntKind.wrap .u64 a2)).bind fun r1 =>
      some (r1.1, ((decide ((0 : Int) < r1.2)), 0))
    else some ((0, 0), (false, 1))
  else some ((0, 0), (false, 1))
def bits_Add64 (_N : Nat) (a0 : Int) (a1 : Int) (a2 : Int) : Option (Int × Int) := add64 a0 a1 a2
def wide_Add (N : Nat) (a0 : (Int × Int)) (a1 : (Int × Int)) : Option ((Int × Int) × Bool) :=
  (bits_Add64 N a0.2 a1.2 0).bind fun r0 =>
  (bits_Add64 N a0.1 a1.1 r0.2).bind fun r1 =>
  some ((r1.1, r0.1), (decide ((0 : Int) < r1.2)))
def cmp_isNaN_uint64 (_N : Nat) (a0 : Int) : Option Bool :=
  some (!(a0 == a0))
def cmp_Compare_uint64 (N : Nat) (a0 : Int) (a1 : Int) : Option Int :=
  (cmp_isNaN_uint64 N a0).bind fun r0 =>
  (cmp_isNaN_uint64 N a1).bind fun r1 =>
  bif r0 then
    bif r1 then
      some 0
    else some (-1)
  else bif r1 then
    some 1
  else bif (decide (a0 < a1)) then
    some (-1)
  else bif (decide (a1 < a0)) then
    some 1
  else some 0
def cmp_Or_int_L3 (_N : Nat) (F : ((Int × (Int × (Int × Unit))) × ((List Int) × Unit)) → Option (((Int × Unit) × Unit) ⊕ ((Int × Unit) × Unit))) (x : ((Int × (Int × (Int × Unit))) × ((List Int) × Unit))) : Option (((Int × Unit) × Unit) ⊕ ((Int × Unit) × Unit)) :=
  bif (decide (x.1.2.2.1 < x.1.2.1)) then
    bif ((decide ((0 : Int) ≤ x.1.2.2.1)) && (decide (x.1.2.2.1 < (((x.2.1).length : Nat) : Int)))) then
      bif (!((x.2.1.getD (x.1.2.2.1 : Int).toNat 0) == x.1.1)) then
        some (.inl (((x.2.1.getD (x.1.2.2.1 : Int).toNat 0), ()), ()))
      else F ((x.1.1, (x.1.2.1, ((IntKind.wrap .i64 (x.1.2.2.1 + 1)), ()))), (x.2.1, ()))
    else none
  else some (.inr ((x.1.1, ()), ()))
def cmp_Or_int (N : Nat) (a0 : (List Int)) : Option Int :=
  (iter (cmp_Or_int_L3 N) N ((0, ((((a0).length : Nat) : Int), (0, ()))), (a0, ()))).bind fun r0 =>
  match r0 with
  | .inl r1 =>
    some r1.1.1
  | .inr r2 =>
    some r2.1.1
def wide_Cmp (N : Nat) (a0 : (Int × Int)) (a1 : (Int × Int)) : Option Int :=
  bif ((a0.1 == a1.1) && ((a0.2 == a1.2) && true)) then
    some 0
  else (cmp_Compare_uint64 N a0.1 a1.1).bind fun r0 =>
  (cmp_Compare_uint64 N a0.2 a1.2).bind fun r1 =>
  (cmp_Or_int N ([r0, r1] : List Int)).bind fun r2 =>
  some r2
def wide_told (N : Nat) (a0 : (Int × Int)) (a1 : Int) : Option (Int × Int) :=
  bif (!(a1 == 0)) then
    some (0, a1)
  else (wide_Cmp N a0 (0, 9223372036854775807)).bind fun r0 =>
  bif (decide ((0 : Int) < r0)) then
    some (0, 8)
  else some ((IntKind.wrap .i64 a0.2), 0)
def wide_MulDivUp (N : Nat) (a0 : Int) (a1 : Int) (a2 : Int) : Option (Int × Int) :=
  (wide_muldiv N a0 a1 a2).bind fun r0 =>
  bif r0.2.1 then
    (wide_Add N r0.1 (0, 1)).bind fun r1 =>
    (wide_told N r1.1 r0.2.2).bind fun r2 =>
    some r2
  else (wide_told N r0.1 r0.2.2).bind fun r3 =>
  some r3

def stats_rank (N : Nat) (a0 : (List Int)) (a1 : Int) (a2 : Int) : Option Int :=
  (sat_Clamp N a1 1 (imx a2 1)).bind fun r0 =>
  (wide_MulDivUp N (((a0).length : Nat) : Int) r0 (imx a2 1)).bind fun r1 =>
  bif ((decide ((0 : Int) ≤ (IntKind.wrap .i64 (r1.1 - 1)))) && (decide ((IntKind.wrap .i64 (r1.1 - 1)) < (((a0).length : Nat) : Int)))) then
    some (a0.getD ((IntKind.wrap .i64 (r1.1 - 1)) : Int).toNat 0)
  else
    none

def stats_Rank (N : Nat) (a0 : (List Int)) (a1 : Int) (a2 : Int) : Option (Int × Bool) :=
  bif ((((a0).length : Nat) : Int) == 0) then
    some (0, false)
  else
    (stats_sorted_int64 N a0).bind fun r0 =>
    (stats_rank N r0 a1 a2).bind fun r1 =>
    some (r1, true)
def sat_end (_N : Nat) (a0 : Bool) : Option Int :=
  bif a0 then
    some (-9223372036854775808)
  else some 9223372036854775807
def sat_Add (N : Nat) (a0 : Int) (a1 : Int) : Option Int :=
  bif (decide ((bits .and .i64 (bits .xor .i64 a0 (IntKind.wrap .i64 (a0 + a1))) (bits .xor .i64 a1 (IntKind.wrap .i64 (a0 + a1)))) < 0)) then
    (sat_end N (decide (a0 < 0))).bind fun r0 =>
    some r0
  else some (IntKind.wrap .i64 (a0 + a1))
def sat_Sum_L3 (N : Nat) (F : ((Int × (Int × (Int × Unit))) × ((List Int) × Unit)) → Option ((Int × Unit) × Unit)) (x : ((Int × (Int × (Int × Unit))) × ((List Int) × Unit))) : Option ((Int × Unit) × Unit) :=
  bif (decide (x.1.2.2.1 < x.1.2.1)) then
    bif ((decide ((0 : Int) ≤ x.1.2.2.1)) && (decide (x.1.2.2.1 < (((x.2.1).length : Nat) : Int)))) then
      (sat_Add N x.1.1 (x.2.1.getD (x.1.2.2.1 : Int).toNat 0)).bind fun r0 =>
      F ((r0, (x.1.2.1, ((IntKind.wrap .i64 (x.1.2.2.1 + 1)), ()))), (x.2.1, ()))
    else none
  else some ((x.1.1, ()), ())
def sat_Sum (N : Nat) (a0 : (List Int)) : Option Int :=
  (iter (sat_Sum_L3 N) N ((0, ((((a0).length : Nat) : Int), (0, ()))), (a0, ()))).bind fun r0 =>
  some r0.1.1

def stats_Of (N : Nat) (a0 : (List Int)) : Option (Int × (Int × (Int × (Int × (Int × (Int × Int)))))) :=
  bif ((((a0).length : Nat) : Int) == 0) then
    some (0, (0, (0, (0, (0, (0, 0))))))
  else
    (stats_sorted_int64 N a0).bind fun r0 =>
    (sat_Sum N a0).bind fun r1 =>
    bif (decide ((0 : Int) < (((r0).length : Nat) : Int))) then
      bif ((decide ((0 : Int) ≤ (IntKind.wrap .i64 ((((r0).length : Nat) : Int) - 1)))) && (decide ((IntKind.wrap .i64 ((((r0).length : Nat) : Int) - 1)) < (((r0).length : Nat) : Int)))) then
        (stats_rank N r0 1 2).bind fun r2 =>
        (stats_rank N r0 9 10).bind fun r3 =>
        (stats_rank N r0 99 100).bind fun r4 =>
        some ((((a0).length : Nat) : Int), (r1, ((r0.getD (0 : Int).toNat 0), ((r0.getD ((IntKind.wrap .i64 ((((r0).length : Nat) : Int) - 1)) : Int).toNat 0), (r2, (r3, r4))))))
      else
        none
    else
      none
def leatref01_Add (_N : Nat) (a0 : Int) (a1 : Int) : Option Int :=
  bif ((decide ((0 : Int) < a1)) == true) then
    bif (decide ((IntKind.wrap .i64 (9223372036854775807 - a1)) < a0)) then
      some 9223372036854775807
    else bif ((decide (a1 < 0)) == true) then
      bif (decide (a0 < (IntKind.wrap .i64 ((-9223372036854775808) - a1)))) then
        some (-9223372036854775808)
      else some (IntKind.wrap .i64 (a0 + a1))
    else some (IntKind.wrap .i64 (a0 + a1))
  else bif ((decide (a1 < 0)) == true) then
    bif (decide (a0 < (IntKind.wrap .i64 ((-9223372036854775808) - a1)))) then
      some (-9223372036854775808)
    else some (IntKind.wrap .i64 (a0 + a1))
  else some (IntKind.wrap .i64 (a0 + a1))
def leatref01_Sum_L3 (N : Nat) (F : ((Int × (Int × Unit)) × ((List Int) × Unit)) → Option ((Int × Unit) × Unit)) (x : ((Int × (Int × Unit)) × ((List Int) × Unit))) : Option ((Int × Unit) × Unit) :=
  bif (decide (x.1.2.1 < (((x.2.1).length : Nat) : Int))) then
    bif ((decide ((0 : Int) ≤ x.1.2.1)) && (decide (x.1.2.1 < (((x.2.1).length : Nat) : Int)))) then
      (leatref01_Add N x.1.1 (x.2.1.getD (x.1.2.1 : Int).toNat 0)).bind fun r0 =>
      F ((r0, ((IntKind.wrap .i64 (x.1.2.1 + 1)), ())), (x.2.1, ()))
    else none
  else some ((x.1.1, ()), ())
def leatref01_Sum (N : Nat) (a0 : (List Int)) : Option Int :=
  (iter (leatref01_Sum_L3 N) N ((0, (0, ())), (a0, ()))).bind fun r0 =>
  some r0.1.1

def leatref52_Of (N : Nat) (a0 : (List Int)) : Option (Int × (Int × (Int × (Int × (Int × (Int × Int)))))) :=
  bif ((((a0).length : Nat) : Int) == 0) then
    some (0, (0, (0, (0, (0, (0, 0))))))
  else
    (leatref52_sorted N ((), (a0, ()))).bind fun r0 =>
    (leatref52_Rank N a0 1 2).bind fun r1 =>
    (leatref52_Rank N a0 9 10).bind fun r2 =>
    (leatref52_Rank N a0 99 100).bind fun r3 =>
    (leatref01_Sum N a0).bind fun r4 =>
    bif (decide ((0 : Int) < (((r0.2.1).length : Nat) : Int))) then
      bif ((decide ((0 : Int) ≤ (IntKind.wrap .i64 ((((r0.2.1).length : Nat) : Int) - 1)))) && (decide ((IntKind.wrap .i64 ((((r0.2.1).length : Nat) : Int) - 1)) < (((r0.2.1).length : Nat) : Int)))) then
        some ((((a0).length : Nat) : Int), (r4, ((r0.2.1.getD (0 : Int).toNat 0), ((r0.2.1.getD ((IntKind.wrap .i64 ((((r0.2.1).length : Nat) : Int) - 1)) : Int).toNat 0), (r1.1, (r2.1, r3.1))))))
      else
        none
    else
      none
def leatref52_row_tab0 : ByteArray := bytesL [32]
def leatref52_row_tab1 : ByteArray := bytesL [10]

def leatref52_row_L2 (N : Nat) (F : ((ByteArray × (Int × Unit)) × ((List Int) × Unit)) → Option ((ByteArray × Unit) × Unit)) (x : ((ByteArray × (Int × Unit)) × ((List Int) × Unit))) : Option ((ByteArray × Unit) × Unit) :=
  bif (decide (x.1.2.1 < (((x.2.1).length : Nat) : Int))) then
    bif (decide (((x.1.1).size + (leatref52_row_tab0).size) ≤ 9223372036854775807)) then
      bif ((decide ((0 : Int) ≤ x.1.2.1)) && (decide (x.1.2.1 < (((x.2.1).length : Nat) : Int)))) then
        (leatref41_Text N (x.2.1.getD (x.1.2.1 : Int).toNat 0)).bind fun r0 =>
        bif (decide ((((x.1.1 ++ leatref52_row_tab0)).size + (r0).size) ≤ 9223372036854775807)) then
          F ((((x.1.1 ++ leatref52_row_tab0) ++ r0), ((IntKind.wrap .i64 (x.1.2.1 + 1)), ())), (x.2.1, ()))
        else
          none
      else
        none
    else
      none
  else
    some ((x.1.1, ()), ())

def leatref52_row (N : Nat) (a0 : ByteArray) (a1 : (List Int)) : Option ByteArray :=
  (iter (leatref52_row_L2 N) N ((a0, (0, ())), (a1, ()))).bind fun r0 =>
  bif (decide (((r0.1.1).size + (leatref52_row_tab1).size) ≤ 9223372036854775807)) then
    some (r0.1.1 ++ leatref52_row_tab1)
  else
    none

def leatref52_Line (N : Nat) (a0 : ByteArray) (a1 : (List Int)) : Option ByteArray :=
  (leatref52_Of N a1).bind fun r0 =>
  (leatref52_row N a0 ([r0.1, r0.2.1, r0.2.2.1, r0.2.2.2.1, r0.2.2.2.2.1, r0.2.2.2.2.2.1, r0.2.2.2.2.2.2] : List Int)).bind fun r1 =>
  some r1

def stats_Line (N : Nat) (a0 : ByteArray) (a1 : (List Int)) : Option ByteArray :=
  (stats_Of N a1).bind fun r0 =>
  (stats_numbers N ([r0.1, r0.2.1, r0.2.2.1, r0.2.2.2.1, r0.2.2.2.2.1, r0.2.2.2.2.2.1, r0.2.2.2.2.2.2] : List Int)).bind fun r1 =>
  bif (decide (((a0).size + (r1).size) ≤ 9223372036854775807)) then
    some (a0 ++ r1)
  else
    none
def wide_MulDiv (N : Nat) (a0 : Int) (a1 : Int) (a2 : Int) : Option (Int × Int) :=
  (wide_muldiv N a0 a1 a2).bind fun r0 =>
  (wide_told N r0.1 r0.2.2).bind fun r1 =>
  some r1
def stats_Bar_tab0 : ByteArray := bytesL [35]

def stats_Bar (N : Nat) (a0 : Int) (a1 : Int) (a2 : Int) : Option ByteArray :=
  (wide_MulDiv N (imx a0 0) (imx 0 (imn a2 100)) (imx a1 1)).bind fun r0 =>
  bif (! (r0.2 == 0)) then
    (strings_Repeat N stats_Bar_tab0 (imn (imx 0 (imn a2 100)) (imx 0 (imn a2 100)))).bind fun r1 =>
    some r1
  else
    (strings_Repeat N stats_Bar_tab0 (imn r0.1 (imx 0 (imn a2 100)))).bind fun r2 =>
    some r2
def leatlaw52_works_tab0 : ByteArray := bytesL [120]
def leatlaw52_works_tab1 : ByteArray := bytesL [120, 32, 51, 32, 57, 32, 49, 32, 53, 32, 51, 32, 53, 32, 53, 10]
def leatlaw52_works_tab2 : ByteArray := bytesL [35, 35]

def leatlaw52_works (N : Nat) : Option Bool :=
  (stats_Line N leatlaw52_works_tab0 ([5, 1, 3] : List Int)).bind fun r0 =>
  bif ((r0.toList == leatlaw52_works_tab1.toList) == true) then
    (stats_Bar N 1 2 4).bind fun r1 =>
    some (r1.toList == leatlaw52_works_tab2.toList)
  else
    some false

def stats_Buckets_L6 (_N : Nat) (F : ((Int × (Int × (Int × (Int × Unit)))) × ((List Int) × ((List Int) × Unit))) → Option ((Int × (Int × (Int × Unit))) × ((List Int) × ((List Int) × Unit)))) (x : ((Int × (Int × (Int × (Int × Unit)))) × ((List Int) × ((List Int) × Unit)))) : Option ((Int × (Int × (Int × Unit))) × ((List Int) × ((List Int) × Unit))) :=
  bif (decide ((0 : Int) < x.1.1)) then
    F (((Int.fdiv x.1.1 2), ((IntKind.wrap .i64 (x.1.2.1 + 1)), (x.1.2.2.1, (x.1.2.2.2.1, ())))), (x.2.1, (x.2.2.1, ())))
  else
    some ((x.1.2.1, (x.1.2.2.1, (x.1.2.2.2.1, ()))), (x.2.1, (x.2.2.1, ())))

def stats_Buckets_L9 (_N : Nat) (F : ((Int × (Int × (Int × Unit))) × ((List Int) × ((List Int) × Unit))) → Option ((Int × (Int × (Int × Unit))) × ((List Int) × ((List Int) × Unit)))) (x : ((Int × (Int × (Int × Unit))) × ((List Int) × ((List Int) × Unit)))) : Option ((Int × (Int × (Int × Unit))) × ((List Int) × ((List Int) × Unit))) :=
  bif (decide ((((x.2.1).length : Nat) : Int) ≤ x.1.1)) then
    bif (decide ((((x.2.1).length + (([0] : List Int)).length) * 8) ≤ 140737488355328)) then
      F ((x.1.1, (x.1.2.1, (x.1.2.2.1, ()))), ((x.2.1 ++ ([0] : List Int)), (x.2.2.1, ())))
    else
      none
  else
    some ((x.1.1, (x.1.2.1, (x.1.2.2.1, ()))), (x.2.1, (x.2.2.1, ())))

def stats_Buckets_L3 (N : Nat) (F : ((Int × (Int × Unit)) × ((List Int) × ((List Int) × Unit))) → Option (Unit × ((List Int) × Unit))) (x : ((Int × (Int × Unit)) × ((List Int) × ((List Int) × Unit)))) : Option (Unit × ((List Int) × Unit)) :=
  bif (decide (x.1.2.1 < x.1.1)) then
    bif ((decide ((0 : Int) ≤ x.1.2.1)) && (decide (x.1.2.1 < (((x.2.2.1).length : Nat) : Int)))) then
      (iter (stats_Buckets_L6 N) N (((x.2.2.1.getD (x.1.2.1 : Int).toNat 0), (0, (x.1.1, (x.1.2.1, ())))), (x.2.1, (x.2.2.1, ())))).bind fun r0 =>
      (iter (stats_Buckets_L9 N) N ((r0.1.1, (r0.1.2.1, (r0.1.2.2.1, ()))), (r0.2.1, (r0.2.2.1, ())))).bind fun r1 =>
      bif ((decide ((0 : Int) ≤ r1.1.1)) && (decide (r1.1.1 < (((r1.2.1).length : Nat) : Int)))) then
        bif ((decide ((0 : Int) ≤ r1.1.1)) && (decide (r1.1.1 < (((r1.2.1).length : Nat) : Int)))) then
          F ((r1.1.2.1, ((IntKind.wrap .i64 (r1.1.2.2.1 + 1)), ())), ((r1.2.1.set (r1.1.1 : Int).toNat (IntKind.wrap .i64 ((r1.2.1.getD (r1.1.1 : Int).toNat 0) + 1))), (r1.2.2.1, ())))
        else
          none
      else
        none
    else
      none
  else
    some ((), (x.2.1, ()))

def stats_Buckets (N : Nat) (a0 : (List Int)) : Option (List Int) :=
  (iter (stats_Buckets_L3 N) N (((((a0).length : Nat) : Int), (0, ())), (([] : List Int), (a0, ())))).bind fun r0 =>
  some r0.2.1

def leatref52_Buckets_L6 (_N : Nat) (F : ((Int × (Int × Unit)) × ((List Int) × ((List Int) × Unit))) → Option ((Int × (Int × Unit)) × ((List Int) × ((List Int) × Unit)))) (x : ((Int × (Int × Unit)) × ((List Int) × ((List Int) × Unit)))) : Option ((Int × (Int × Unit)) × ((List Int) × ((List Int) × Unit))) :=
  bif ((decide (x.1.2.1 < 63)) == true) then
    bif ((decide ((0 : Int) ≤ x.1.1)) && (decide (x.1.1 < (((x.2.1).length : Nat) : Int)))) then
      bif (! (decide ((IntKind.wrap .u64 x.1.2.1) < 0))) then
        bif (decide ((IntKind.wrap .i64 (1 * 2 ^ (min ((IntKind.wrap .u64 x.1.2.1)).toNat 64))) ≤ (x.2.1.getD (x.1.1 : Int).toNat 0))) then
          F ((x.1.1, ((IntKind.wrap .i64 (x.1.2.1 + 1)), ())), (x.2.1, (x.2.2.1, ())))
        else
          some ((x.1.1, (x.1.2.1, ())), (x.2.1, (x.2.2.1, ())))
      else
        none
    else
      none
  else
    some ((x.1.1, (x.1.2.1, ())), (x.2.1, (x.2.2.1, ())))

def leatref52_Buckets_L8 (_N : Nat) (F : ((Int × (Int × Unit)) × ((List Int) × ((List Int) × Unit))) → Option ((Int × (Int × Unit)) × ((List Int) × ((List Int) × Unit)))) (x : ((Int × (Int × Unit)) × ((List Int) × ((List Int) × Unit)))) : Option ((Int × (Int × Unit)) × ((List Int) × ((List Int) × Unit))) :=
  bif (decide ((((x.2.2.1).length : Nat) : Int) ≤ x.1.2.1)) then
    bif (decide ((((x.2.2.1).length + (([0] : List Int)).length) * 8) ≤ 140737488355328)) then
      F ((x.1.1, (x.1.2.1, ())), (x.2.1, ((x.2.2.1 ++ ([0] : List Int)), ())))
    else
      none
  else
    some ((x.1.1, (x.1.2.1, ())), (x.2.1, (x.2.2.1, ())))

def leatref52_Buckets_L3 (N : Nat) (F : ((Int × Unit) × ((List Int) × ((List Int) × Unit))) → Option (Unit × ((List Int) × Unit))) (x : ((Int × Unit) × ((List Int) × ((List Int) × Unit)))) : Option (Unit × ((List Int) × Unit)) :=
  bif (decide (x.1.1 < (((x.2.1).length : Nat) : Int))) then
    (iter (leatref52_Buckets_L6 N) N ((x.1.1, (0, ())), (x.2.1, (x.2.2.1, ())))).bind fun r0 =>
    (iter (leatref52_Buckets_L8 N) N ((r0.1.1, (r0.1.2.1, ())), (r0.2.1, (r0.2.2.1, ())))).bind fun r1 =>
    bif ((decide ((0 : Int) ≤ r1.1.2.1)) && (decide (r1.1.2.1 < (((r1.2.2.1).length : Nat) : Int)))) then
      bif ((decide ((0 : Int) ≤ r1.1.2.1)) && (decide (r1.1.2.1 < (((r1.2.2.1).length : Nat) : Int)))) then
        F (((IntKind.wrap .i64 (r1.1.1 + 1)), ()), (r1.2.1, ((r1.2.2.1.set (r1.1.2.1 : Int).toNat (IntKind.wrap .i64 ((r1.2.2.1.getD (r1.1.2.1 : Int).toNat 0) + 1))), ())))
      else
        none
    else
      none
  else
    some ((), (x.2.2.1, ()))

def leatref52_Buckets (N : Nat) (a0 : (List Int)) : Option (List Int) :=
  (iter (leatref52_Buckets_L3 N) N ((0, ()), (a0, (([] : List Int), ())))).bind fun r0 =>
  some r0.2.1
def fixed_Ratio (N : Nat) (a0 : Int) (a1 : Int) : Option Int :=
  bif (decide (a0 ≤ 0)) then
    some 0
  else bif ((decide (a1 ≤ 0)) == false) then
    bif (decide (a1 ≤ a0)) then
      some 1048576
    else (wide_MulDiv N a0 1048576 a1).bind fun r0 =>
    some r0.1
  else some 1048576

def stats_Fair_L4 (N : Nat) (F : ((Int × (Int × (Int × Unit))) × ((List Int) × ((List Int) × Unit))) → Option ((Int × Unit) × ((List Int) × Unit))) (x : ((Int × (Int × (Int × Unit))) × ((List Int) × ((List Int) × Unit)))) : Option ((Int × Unit) × ((List Int) × Unit)) :=
  bif (decide (x.1.2.2.1 < x.1.2.1)) then
    bif ((decide ((0 : Int) ≤ x.1.2.2.1)) && (decide (x.1.2.2.1 < (((x.2.2.1).length : Nat) : Int)))) then
      (sat_Clamp N (x.2.2.1.getD (x.1.2.2.1 : Int).toNat 0) 0 1099511627776).bind fun r0 =>
      bif (decide ((((x.2.1).length + (([r0] : List Int)).length) * 8) ≤ 140737488355328)) then
        F (((imx x.1.1 r0), (x.1.2.1, ((IntKind.wrap .i64 (x.1.2.2.1 + 1)), ()))), ((x.2.1 ++ ([r0] : List Int)), (x.2.2.1, ())))
      else
        none
    else
      none
  else
    some ((x.1.1, ()), (x.2.1, ()))

def stats_Fair_L12 (_N : Nat) (F : ((Int × (Int × (Int × (Int × (Int × Unit))))) × ((List Int) × Unit)) → Option ((Int × (Int × Unit)) × ((List Int) × Unit))) (x : ((Int × (Int × (Int × (Int × (Int × Unit))))) × ((List Int) × Unit))) : Option ((Int × (Int × Unit)) × ((List Int) × Unit)) :=
  bif (decide (x.1.2.2.2.2.1 < x.1.2.2.2.1)) then
    bif ((decide ((0 : Int) ≤ x.1.2.2.2.2.1)) && (decide (x.1.2.2.2.2.1 < (((x.2.1).length : Nat) : Int)))) then
      bif (decide ((1048576 : Int) ≤ x.1.1)) then
        F ((x.1.1, ((IntKind.wrap .i64 (x.1.2.1 + (Int.fdiv (x.2.1.getD (x.1.2.2.2.2.1 : Int).toNat 0) 1048576))), ((IntKind.wrap .i64 (x.1.2.2.1 + (IntKind.wrap .i64 ((Int.fdiv (x.2.1.getD (x.1.2.2.2.2.1 : Int).toNat 0) 1048576) * (Int.fdiv (x.2.1.getD (x.1.2.2.2.2.1 : Int).toNat 0) 1048576))))), (x.1.2.2.2.1, ((IntKind.wrap .i64 (x.1.2.2.2.2.1 + 1)), ()))))), (x.2.1, ()))
      else
        F ((x.1.1, ((IntKind.wrap .i64 (x.1.2.1 + (x.2.1.getD (x.1.2.2.2.2.1 : Int).toNat 0))), ((IntKind.wrap .i64 (x.1.2.2.1 + (IntKind.wrap .i64 ((x.2.1.getD (x.1.2.2.2.2.1 : Int).toNat 0) * (x.2.1.getD (x.1.2.2.2.2.1 : Int).toNat 0))))), (x.1.2.2.2.1, ((IntKind.wrap .i64 (x.1.2.2.2.2.1 + 1)), ()))))), (x.2.1, ()))
    else
      none
  else
    some ((x.1.2.1, (x.1.2.2.1, ())), (x.2.1, ()))

def stats_Fair (N : Nat) (a0 : (List Int)) : Option Int :=
  bif ((decide ((0 : Int) ≤ (imn (((a0).length : Nat) : Int) 256))) && (decide ((imn (((a0).length : Nat) : Int) 256) ≤ (((a0).length : Nat) : Int)))) then
    (iter (stats_Fair_L4 N) N ((0, (((((cutL a0 0 (imn (((a0).length : Nat) : Int) 256))).length : Nat) : Int), (0, ()))), (([] : List Int), ((cutL a0 0 (imn (((a0).length : Nat) : Int) 256)), ())))).bind fun r0 =>
    (iter (stats_Fair_L12 N) N ((r0.1.1, (0, (0, ((((r0.2.1).length : Nat) : Int), (0, ()))))), (r0.2.1, ()))).bind fun r1 =>
    bif (r1.1.2.1 == 0) then
      some 1048576
    else
      (fixed_Ratio N (IntKind.wrap .i64 (r1.1.1 * r1.1.1)) (IntKind.wrap .i64 (r1.1.2.1 * (((r1.2.1).length : Nat) : Int)))).bind fun r2 =>
      some r2
  else
    none
def leatref04_quo (N : Nat) (a0 : Int) (a1 : Int) (a2 : Int) : Option Int :=
  bif ((decide (a0 < 4398046511104)) == true) then
    bif (decide (a1 ≤ 1048576)) then
      bif (!(decide (a2 = 0))) then
        some (IntKind.wrap .i64 (Int.tdiv (IntKind.wrap .i64 (a0 * a1)) a2))
      else none
    else (leatref02_MulDiv N a0 a1 a2 false).bind fun r0 =>
    some r0.1
  else (leatref02_MulDiv N a0 a1 a2 false).bind fun r1 =>
  some r1.1
def leatref04_Ratio (N : Nat) (a0 : Int) (a1 : Int) : Option Int :=
  bif (decide (a0 ≤ 0)) then
    some 0
  else bif ((decide (a1 ≤ 0)) == false) then
    bif (decide (a1 ≤ a0)) then
      some 1048576
    else (leatref04_quo N a0 1048576 a1).bind fun r0 =>
    some r0
  else some 1048576

def leatref52_Fair_L3 (_N : Nat) (F : ((Int × (Int × Unit)) × ((List Int) × Unit)) → Option ((Int × Unit) × ((List Int) × Unit))) (x : ((Int × (Int × Unit)) × ((List Int) × Unit))) : Option ((Int × Unit) × ((List Int) × Unit)) :=
  bif ((decide (x.1.2.1 < (((x.2.1).length : Nat) : Int))) == true) then
    bif (decide (x.1.2.1 < 256)) then
      bif ((decide ((0 : Int) ≤ x.1.2.1)) && (decide (x.1.2.1 < (((x.2.1).length : Nat) : Int)))) then
        bif (decide ((1048576 : Int) ≤ (x.2.1.getD (x.1.2.1 : Int).toNat 0))) then
          F ((1048576, ((IntKind.wrap .i64 (x.1.2.1 + 1)), ())), (x.2.1, ()))
        else
          F ((x.1.1, ((IntKind.wrap .i64 (x.1.2.1 + 1)), ())), (x.2.1, ()))
      else
        none
    else
      some ((x.1.1, ()), (x.2.1, ()))
  else
    some ((x.1.1, ()), (x.2.1, ()))

def leatref52_Fair_L9 (_N : Nat) (F : ((Int × (Int × (Int × (Int × (Int × Unit))))) × ((List Int) × Unit)) → Option ((Int × (Int × (Int × Unit))) × Unit)) (x : ((Int × (Int × (Int × (Int × (Int × Unit))))) × ((List Int) × Unit))) : Option ((Int × (Int × (Int × Unit))) × Unit) :=
  bif ((decide (x.1.2.2.2.2.1 < (((x.2.1).length : Nat) : Int))) == true) then
    bif (decide (x.1.2.2.2.2.1 < 256)) then
      bif ((decide ((0 : Int) ≤ x.1.2.2.2.2.1)) && (decide (x.1.2.2.2.2.1 < (((x.2.1).length : Nat) : Int)))) then
        bif (! (decide (x.1.1 = 0))) then
          F ((x.1.1, ((IntKind.wrap .i64 (x.1.2.1 + (IntKind.wrap .i64 (Int.tdiv (imn (imx (x.2.1.getD (x.1.2.2.2.2.1 : Int).toNat 0) 0) 1099511627776) x.1.1)))), ((IntKind.wrap .i64 (x.1.2.2.1 + (IntKind.wrap .i64 ((IntKind.wrap .i64 (Int.tdiv (imn (imx (x.2.1.getD (x.1.2.2.2.2.1 : Int).toNat 0) 0) 1099511627776) x.1.1)) * (IntKind.wrap .i64 (Int.tdiv (imn (imx (x.2.1.getD (x.1.2.2.2.2.1 : Int).toNat 0) 0) 1099511627776) x.1.1)))))), ((IntKind.wrap .i64 (x.1.2.2.2.1 + 1)), ((IntKind.wrap .i64 (x.1.2.2.2.2.1 + 1)), ()))))), (x.2.1, ()))
        else
          none
      else
        none
    else
      some ((x.1.2.1, (x.1.2.2.1, (x.1.2.2.2.1, ()))), ())
  else
    some ((x.1.2.1, (x.1.2.2.1, (x.1.2.2.2.1, ()))), ())

def leatref52_Fair (N : Nat) (a0 : (List Int)) : Option Int :=
  (iter (leatref52_Fair_L3 N) N ((1, (0, ())), (a0, ()))).bind fun r0 =>
  (iter (leatref52_Fair_L9 N) N ((r0.1.1, (0, (0, (0, (0, ()))))), (r0.2.1, ()))).bind fun r1 =>
  bif (r1.1.2.1 == 0) then
    some 1048576
  else
    (leatref04_Ratio N (IntKind.wrap .i64 (r1.1.1 * r1.1.1)) (IntKind.wrap .i64 (r1.1.2.1 * r1.1.2.2.1))).bind fun r2 =>
    some r2

def leatref52_Bar_L7 (_N : Nat) (F : ((Int × (ByteArray × (Int × Unit))) × Unit) → Option ((ByteArray × Unit) × Unit)) (x : ((Int × (ByteArray × (Int × Unit))) × Unit)) : Option ((ByteArray × Unit) × Unit) :=
  bif (decide (x.1.2.2.1 < x.1.1)) then
    bif (decide (((x.1.2.1).size + (stats_Bar_tab0).size) ≤ 9223372036854775807)) then
      F ((x.1.1, ((x.1.2.1 ++ stats_Bar_tab0), ((IntKind.wrap .i64 (x.1.2.2.1 + 1)), ()))), ())
    else
      none
  else
    some ((x.1.2.1, ()), ())

def leatref52_Bar (N : Nat) (a0 : Int) (a1 : Int) (a2 : Int) : Option ByteArray :=
  (leatref02_MulDiv N (imx a0 0) (imn (imx a2 0) 100) (imx a1 1) false).bind fun r0 =>
  bif ((! (r0.2 == 0)) == false) then
    bif (decide ((imn (imx a2 0) 100) < r0.1)) then
      (iter (leatref52_Bar_L7 N) N (((imn (imx a2 0) 100), (ByteArray.empty, (0, ()))), ())).bind fun r1 =>
      some r1.1.1
    else
      (iter (leatref52_Bar_L7 N) N ((r0.1, (ByteArray.empty, (0, ()))), ())).bind fun r2 =>
      some r2.1.1
  else
    (iter (leatref52_Bar_L7 N) N (((imn (imx a2 0) 100), (ByteArray.empty, (0, ()))), ())).bind fun r3 =>
    some r3.1.1

def leatlaw52_StatsShows_L6 (_N : Nat) (F : ((Int × (Int × (Int × Unit))) × ((List Int) × ((Int × (Int × Unit)) × ((List Int) × ((List Int) × Unit))))) → Option (((Bool × Unit) × Unit) ⊕ ((Int × Unit) × ((List Int) × ((Int × (Int × Unit)) × Unit))))) (x : ((Int × (Int × (Int × Unit))) × ((List Int) × ((Int × (Int × Unit)) × ((List Int) × ((List Int) × Unit)))))) : Option (((Bool × Unit) × Unit) ⊕ ((Int × Unit) × ((List Int) × ((Int × (Int × Unit)) × Unit)))) :=
  bif (decide (x.1.2.2.1 < x.1.2.1)) then
    bif ((decide ((0 : Int) ≤ x.1.2.2.1)) && (decide (x.1.2.2.1 < (((x.2.2.2.1).length : Nat) : Int)))) then
      bif ((decide ((0 : Int) ≤ x.1.2.2.1)) && (decide (x.1.2.2.1 < (((x.2.2.2.2.1).length : Nat) : Int)))) then
        bif (! ((x.2.2.2.1.getD (x.1.2.2.1 : Int).toNat 0) == (x.2.2.2.2.1.getD (x.1.2.2.1 : Int).toNat 0))) then
          some (.inl ((false, ()), ()))
        else
          F ((x.1.1, (x.1.2.1, ((IntKind.wrap .i64 (x.1.2.2.1 + 1)), ()))), (x.2.1, ((x.2.2.1.1, (x.2.2.1.2.1, ())), (x.2.2.2.1, (x.2.2.2.2.1, ())))))
      else
        none
    else
      none
  else
    some (.inr ((x.1.1, ()), (x.2.1, ((x.2.2.1.1, (x.2.2.1.2.1, ())), ()))))

def leatlaw52_StatsShows (N : Nat) (a0 : (List Int)) (a1 : (Int × Int)) (a2 : Int) : Option Bool :=
  bif ((decide ((0 : Int) ≤ (imn (((a0).length : Nat) : Int) 300))) && (decide ((imn (((a0).length : Nat) : Int) 300) ≤ (((a0).length : Nat) : Int)))) then
    (stats_Buckets N (cutL a0 0 (imn (((a0).length : Nat) : Int) 300))).bind fun r0 =>
    (leatref52_Buckets N (cutL a0 0 (imn (((a0).length : Nat) : Int) 300))).bind fun r1 =>
    bif (! ((((r0).length : Nat) : Int) == (((r1).length : Nat) : Int))) then
      some false
    else
      (iter (leatlaw52_StatsShows_L6 N) N ((a2, ((((r0).length : Nat) : Int), (0, ()))), ((cutL a0 0 (imn (((a0).length : Nat) : Int) 300)), ((a1.1, (a1.2, ())), (r0, (r1, ())))))).bind fun r2 =>
      match r2 with
      | .inl r3 =>
        some r3.1.1
      | .inr r4 =>
        (stats_Fair N r4.2.1).bind fun r5 =>
        (leatref52_Fair N r4.2.1).bind fun r6 =>
        bif ((r5 == r6) == true) then
          (stats_Bar N r4.2.2.1.1 r4.2.2.1.2.1 r4.1.1).bind fun r7 =>
          (leatref52_Bar N r4.2.2.1.1 r4.2.2.1.2.1 r4.1.1).bind fun r8 =>
          bif ((r7.toList == r8.toList) == true) then
            (leatlaw52_works N).bind fun r9 =>
            some r9
          else
            some false
        else
          some false
  else
    none

def leatlaw52_StatsRises_L7 (_N : Nat) (F : ((Int × (Int × (Int × (Int × (Int × Unit))))) × ((List Int) × ((List Int) × Unit))) → Option ((Int × (Int × (Int × Unit))) × ((List Int) × Unit))) (x : ((Int × (Int × (Int × (Int × (Int × Unit))))) × ((List Int) × ((List Int) × Unit)))) : Option ((Int × (Int × (Int × Unit))) × ((List Int) × Unit)) :=
  bif (decide (x.1.2.2.2.2.1 < x.1.2.2.2.1)) then
    bif ((decide ((0 : Int) ≤ x.1.2.2.2.2.1)) && (decide (x.1.2.2.2.2.1 < (((x.2.2.1).length : Nat) : Int)))) then
      F ((x.1.1, (x.1.2.1, ((IntKind.wrap .i64 (x.1.2.2.1 + (x.2.2.1.getD (x.1.2.2.2.2.1 : Int).toNat 0))), (x.1.2.2.2.1, ((IntKind.wrap .i64 (x.1.2.2.2.2.1 + 1)), ()))))), (x.2.1, (x.2.2.1, ())))
    else
      none
  else
    some ((x.1.1, (x.1.2.1, (x.1.2.2.1, ()))), (x.2.1, ()))

def leatlaw52_StatsRises_L13 (_N : Nat) (F : ((Int × (Int × (Int × (Int × Unit)))) × ((List Int) × ((List Int) × Unit))) → Option ((Int × (Int × Unit)) × ((List Int) × ((List Int) × Unit)))) (x : ((Int × (Int × (Int × (Int × Unit)))) × ((List Int) × ((List Int) × Unit)))) : Option ((Int × (Int × Unit)) × ((List Int) × ((List Int) × Unit))) :=
  bif (decide (x.1.2.2.2.1 < x.1.2.2.1)) then
    bif (decide ((((x.2.2.1).length + (([(IntKind.wrap .i64 ((IntKind.wrap .i64 (Int.tmod x.1.1 1000)) + 1))] : List Int)).length) * 8) ≤ 140737488355328)) then
      F ((x.1.1, (x.1.2.1, (x.1.2.2.1, ((IntKind.wrap .i64 (x.1.2.2.2.1 + 1)), ())))), (x.2.1, ((x.2.2.1 ++ ([(IntKind.wrap .i64 ((IntKind.wrap .i64 (Int.tmod x.1.1 1000)) + 1))] : List Int)), ())))
    else
      none
  else
    some ((x.1.1, (x.1.2.1, ())), (x.2.1, (x.2.2.1, ())))

def leatlaw52_StatsRises_L18 (_N : Nat) (F : ((Int × (Int × (Int × (Int × Unit)))) × ((List Int) × ((List Int) × ((List Int) × Unit)))) → Option ((Int × (Int × Unit)) × ((List Int) × ((List Int) × ((List Int) × Unit))))) (x : ((Int × (Int × (Int × (Int × Unit)))) × ((List Int) × ((List Int) × ((List Int) × Unit))))) : Option ((Int × (Int × Unit)) × ((List Int) × ((List Int) × ((List Int) × Unit)))) :=
  bif (decide (x.1.2.2.2.1 < x.1.2.2.1)) then
    bif ((decide ((0 : Int) ≤ x.1.2.2.2.1)) && (decide (x.1.2.2.2.1 < (((x.2.2.2.1).length : Nat) : Int)))) then
      F ((x.1.1, (x.1.2.1, (x.1.2.2.1, ((IntKind.wrap .i64 (x.1.2.2.2.1 + 1)), ())))), (x.2.1, (x.2.2.1, ((x.2.2.2.1.set (x.1.2.2.2.1 : Int).toNat 0), ()))))
    else
      none
  else
    some ((x.1.1, (x.1.2.1, ())), (x.2.1, (x.2.2.1, (x.2.2.2.1, ()))))

def leatlaw52_StatsRises (N : Nat) (a0 : (List Int)) (a1 : Int) (a2 : Int) : Option Bool :=
  bif ((decide ((0 : Int) ≤ (imn (((a0).length : Nat) : Int) 100))) && (decide ((imn (((a0).length : Nat) : Int) 100) ≤ (((a0).length : Nat) : Int)))) then
    (stats_Of N (cutL a0 0 (imn (((a0).length : Nat) : Int) 100))).bind fun r0 =>
    bif ((decide (r0.2.2.2.2.1 < r0.2.2.1)) == false) then
      bif ((decide (r0.2.2.2.2.2.1 < r0.2.2.2.2.1)) == false) then
        bif ((decide (r0.2.2.2.2.2.2 < r0.2.2.2.2.2.1)) == false) then
          bif ((decide (r0.2.2.2.1 < r0.2.2.2.2.2.2)) == false) then
            bif (! (r0.1 == ((((cutL a0 0 (imn (((a0).length : Nat) : Int) 100))).length : Nat) : Int))) then
              some false
            else
              (stats_Buckets N (cutL a0 0 (imn (((a0).length : Nat) : Int) 100))).bind fun r1 =>
              (iter (leatlaw52_StatsRises_L7 N) N ((a1, (a2, (0, ((((r1).length : Nat) : Int), (0, ()))))), ((cutL a0 0 (imn (((a0).length : Nat) : Int) 100)), (r1, ())))).bind fun r2 =>
              (iter (leatlaw52_StatsRises_L13 N) N ((r2.1.1, (r2.1.2.2.1, ((IntKind.wrap .i64 ((IntKind.wrap .i64 (Int.tmod r2.1.2.1 20)) + 2)), (0, ())))), (r2.2.1, (([] : List Int), ())))).bind fun r3 =>
              bif (decide ((((([] : List Int)).length + (r3.2.2.1).length) * 8) ≤ 140737488355328)) then
                (iter (leatlaw52_StatsRises_L18 N) N ((r3.1.1, (r3.1.2.1, (((((([] : List Int) ++ r3.2.2.1)).length : Nat) : Int), (0, ())))), (r3.2.1, (r3.2.2.1, ((([] : List Int) ++ r3.2.2.1), ()))))).bind fun r4 =>
                bif (decide ((0 : Int) < (((r4.2.2.2.1).length : Nat) : Int))) then
                  bif ((r4.1.2.1 == (((r4.2.1).length : Nat) : Int)) == true) then
                    (stats_Fair N r4.2.2.1).bind fun r5 =>
                    bif ((r5 == 1048576) == true) then
                      (stats_Fair N (r4.2.2.2.1.set (0 : Int).toNat (IntKind.wrap .i64 ((IntKind.wrap .i64 (Int.tmod r4.1.1 1000)) + 1)))).bind fun r6 =>
                      bif (! (decide (((((r4.2.2.2.1.set (0 : Int).toNat (IntKind.wrap .i64 ((IntKind.wrap .i64 (Int.tmod r4.1.1 1000)) + 1)))).length : Nat) : Int) = 0))) then
                        bif ((r6 == (IntKind.wrap .i64 (Int.tdiv 1048576 ((((r4.2.2.2.1.set (0 : Int).toNat (IntKind.wrap .i64 ((IntKind.wrap .i64 (Int.tmod r4.1.1 1000)) + 1)))).length : Nat) : Int)))) == true) then
                          (leatlaw52_works N).bind fun r7 =>
                          some r7
                        else
                          some false
                      else
                        none
                    else
                      some false
                  else
                    some false
                else
                  none
              else
                none
          else
            some false
        else
          some false
      else
        some false
    else
      some false
  else
    none
end Go.Proofs.YtdoiofdepmiejaaDoor.W
