/- The functions of the seat, as the evaluator tells them: the texts alone. Printed by genW.py. -/
import Derived.Test.YtfoickedejcffaaEvQ
namespace Go.Proofs.Ytfoickedejcffaa.W
open Go.Ev Go.RowKit
def leatref02_Bits_L3 (_N : Nat) (F : ((Int × (Int × (Int × Unit))) × ((List Int) × Unit)) → Option (Unit × ((List Int) × Unit))) (x : ((Int × (Int × (Int × Unit))) × ((List Int) × Unit))) : Option (Unit × ((List Int) × Unit)) :=
  bif (decide (x.1.2.2.1 < x.1.2.1)) then
    bif (decide ((((x.2.1).length + (([(IntKind.wrap .i64 (Int.tmod x.1.1 2))] : List Int)).length) * 8) ≤ 140737488355328)) then
      F (((IntKind.wrap .u64 (Int.tdiv x.1.1 2)), (x.1.2.1, ((IntKind.wrap .i64 (x.1.2.2.1 + 1)), ()))), ((x.2.1 ++ ([(IntKind.wrap .i64 (Int.tmod x.1.1 2))] : List Int)), ()))
    else none
  else some ((), (x.2.1, ()))
def leatref02_Bits (N : Nat) (a0 : Int) (a1 : Int) : Option (List Int) :=
  (iter (leatref02_Bits_L3 N) N ((a0, (a1, (0, ()))), (([] : List Int), ()))).bind fun r0 =>
  some r0.2.1
def leatref02_Add_L4 (_N : Nat) (F : ((Int × (Int × Unit)) × ((List Int) × ((List Int) × ((List Int) × Unit)))) → Option ((Int × Unit) × ((List Int) × Unit))) (x : ((Int × (Int × Unit)) × ((List Int) × ((List Int) × ((List Int) × Unit))))) : Option ((Int × Unit) × ((List Int) × Unit)) :=
  bif ((decide (x.1.2.1 < (((x.2.1).length : Nat) : Int))) == false) then
    bif (decide (x.1.2.1 < (((x.2.2.1).length : Nat) : Int))) then
      bif (decide (x.1.2.1 < (((x.2.1).length : Nat) : Int))) then
        bif ((decide ((0 : Int) ≤ x.1.2.1)) && (decide (x.1.2.1 < (((x.2.1).length : Nat) : Int)))) then
          bif (decide (x.1.2.1 < (((x.2.2.1).length : Nat) : Int))) then
            bif ((decide ((0 : Int) ≤ x.1.2.1)) && (decide (x.1.2.1 < (((x.2.2.1).length : Nat) : Int)))) then
              bif (decide ((((x.2.2.2.1).length + (([(Int.tmod (IntKind.wrap .i64 ((IntKind.wrap .i64 (x.1.1 + (x.2.1.getD (x.1.2.1).toNat 0))) + (x.2.2.1.getD (x.1.2.1).toNat 0))) 2)] : List Int)).length) * 8) ≤ 140737488355328)) then
                F (((IntKind.wrap .i64 (Int.tdiv (IntKind.wrap .i64 ((IntKind.wrap .i64 (x.1.1 + (x.2.1.getD (x.1.2.1).toNat 0))) + (x.2.2.1.getD (x.1.2.1).toNat 0))) 2)), ((IntKind.wrap .i64 (x.1.2.1 + 1)), ())), (x.2.1, (x.2.2.1, ((x.2.2.2.1 ++ ([(Int.tmod (IntKind.wrap .i64 ((IntKind.wrap .i64 (x.1.1 + (x.2.1.getD (x.1.2.1).toNat 0))) + (x.2.2.1.getD (x.1.2.1).toNat 0))) 2)] : List Int)), ()))))
              else none
            else none
          else bif (decide ((((x.2.2.2.1).length + (([(Int.tmod (IntKind.wrap .i64 (x.1.1 + (x.2.1.getD (x.1.2.1).toNat 0))) 2)] : List Int)).length) * 8) ≤ 140737488355328)) then
            F (((IntKind.wrap .i64 (Int.tdiv (IntKind.wrap .i64 (x.1.1 + (x.2.1.getD (x.1.2.1).toNat 0))) 2)), ((IntKind.wrap .i64 (x.1.2.1 + 1)), ())), (x.2.1, (x.2.2.1, ((x.2.2.2.1 ++ ([(Int.tmod (IntKind.wrap .i64 (x.1.1 + (x.2.1.getD (x.1.2.1).toNat 0))) 2)] : List Int)), ()))))
          else none
        else none
      else bif (decide (x.1.2.1 < (((x.2.2.1).length : Nat) : Int))) then
        bif ((decide ((0 : Int) ≤ x.1.2.1)) && (decide (x.1.2.1 < (((x.2.2.1).length : Nat) : Int)))) then
          bif (decide ((((x.2.2.2.1).length + (([(Int.tmod (IntKind.wrap .i64 (x.1.1 + (x.2.2.1.getD (x.1.2.1).toNat 0))) 2)] : List Int)).length) * 8) ≤ 140737488355328)) then
            F (((IntKind.wrap .i64 (Int.tdiv (IntKind.wrap .i64 (x.1.1 + (x.2.2.1.getD (x.1.2.1).toNat 0))) 2)), ((IntKind.wrap .i64 (x.1.2.1 + 1)), ())), (x.2.1, (x.2.2.1, ((x.2.2.2.1 ++ ([(Int.tmod (IntKind.wrap .i64 (x.1.1 + (x.2.2.1.getD (x.1.2.1).toNat 0))) 2)] : List Int)), ()))))
          else none
        else none
      else bif (decide ((((x.2.2.2.1).length + (([(Int.tmod x.1.1 2)] : List Int)).length) * 8) ≤ 140737488355328)) then
        F (((IntKind.wrap .i64 (Int.tdiv x.1.1 2)), ((IntKind.wrap .i64 (x.1.2.1 + 1)), ())), (x.2.1, (x.2.2.1, ((x.2.2.2.1 ++ ([(Int.tmod x.1.1 2)] : List Int)), ()))))
      else none
    else some ((x.1.1, ()), (x.2.2.2.1, ()))
  else bif (decide (x.1.2.1 < (((x.2.1).length : Nat) : Int))) then
    bif ((decide ((0 : Int) ≤ x.1.2.1)) && (decide (x.1.2.1 < (((x.2.1).length : Nat) : Int)))) then
      bif (decide (x.1.2.1 < (((x.2.2.1).length : Nat) : Int))) then
        bif ((decide ((0 : Int) ≤ x.1.2.1)) && (decide (x.1.2.1 < (((x.2.2.1).length : Nat) : Int)))) then
          bif (decide ((((x.2.2.2.1).length + (([(Int.tmod (IntKind.wrap .i64 ((IntKind.wrap .i64 (x.1.1 + (x.2.1.getD (x.1.2.1).toNat 0))) + (x.2.2.1.getD (x.1.2.1).toNat 0))) 2)] : List Int)).length) * 8) ≤ 140737488355328)) then
            F (((IntKind.wrap .i64 (Int.tdiv (IntKind.wrap .i64 ((IntKind.wrap .i64 (x.1.1 + (x.2.1.getD (x.1.2.1).toNat 0))) + (x.2.2.1.getD (x.1.2.1).toNat 0))) 2)), ((IntKind.wrap .i64 (x.1.2.1 + 1)), ())), (x.2.1, (x.2.2.1, ((x.2.2.2.1 ++ ([(Int.tmod (IntKind.wrap .i64 ((IntKind.wrap .i64 (x.1.1 + (x.2.1.getD (x.1.2.1).toNat 0))) + (x.2.2.1.getD (x.1.2.1).toNat 0))) 2)] : List Int)), ()))))
          else none
        else none
      else bif (decide ((((x.2.2.2.1).length + (([(Int.tmod (IntKind.wrap .i64 (x.1.1 + (x.2.1.getD (x.1.2.1).toNat 0))) 2)] : List Int)).length) * 8) ≤ 140737488355328)) then
        F (((IntKind.wrap .i64 (Int.tdiv (IntKind.wrap .i64 (x.1.1 + (x.2.1.getD (x.1.2.1).toNat 0))) 2)), ((IntKind.wrap .i64 (x.1.2.1 + 1)), ())), (x.2.1, (x.2.2.1, ((x.2.2.2.1 ++ ([(Int.tmod (IntKind.wrap .i64 (x.1.1 + (x.2.1.getD (x.1.2.1).toNat 0))) 2)] : List Int)), ()))))
      else none
    else none
  else bif (decide (x.1.2.1 < (((x.2.2.1).length : Nat) : Int))) then
    bif ((decide ((0 : Int) ≤ x.1.2.1)) && (decide (x.1.2.1 < (((x.2.2.1).length : Nat) : Int)))) then
      bif (decide ((((x.2.2.2.1).length + (([(Int.tmod (IntKind.wrap .i64 (x.1.1 + (x.2.2.1.getD (x.1.2.1).toNat 0))) 2)] : List Int)).length) * 8) ≤ 140737488355328)) then
        F (((IntKind.wrap .i64 (Int.tdiv (IntKind.wrap .i64 (x.1.1 + (x.2.2.1.getD (x.1.2.1).toNat 0))) 2)), ((IntKind.wrap .i64 (x.1.2.1 + 1)), ())), (x.2.1, (x.2.2.1, ((x.2.2.2.1 ++ ([(Int.tmod (IntKind.wrap .i64 (x.1.1 + (x.2.2.1.getD (x.1.2.1).toNat 0))) 2)] : List Int)), ()))))
      else none
    else none
  else bif (decide ((((x.2.2.2.1).length + (([(Int.tmod x.1.1 2)] : List Int)).length) * 8) ≤ 140737488355328)) then
    F (((IntKind.wrap .i64 (Int.tdiv x.1.1 2)), ((IntKind.wrap .i64 (x.1.2.1 + 1)), ())), (x.2.1, (x.2.2.1, ((x.2.2.2.1 ++ ([(Int.tmod x.1.1 2)] : List Int)), ()))))
  else none
def leatref02_Add (N : Nat) (a0 : (List Int)) (a1 : (List Int)) : Option (List Int) :=
  (iter (leatref02_Add_L4 N) N ((0, (0, ())), (a0, (a1, (([] : List Int), ()))))).bind fun r0 =>
  bif (decide ((((r0.2.1).length + (([r0.1.1] : List Int)).length) * 8) ≤ 140737488355328)) then
    some (r0.2.1 ++ ([r0.1.1] : List Int))
  else none
def leatref02_Mul_L3 (N : Nat) (F : ((Int × Unit) × ((List Int) × ((List Int) × ((List Int) × Unit)))) → Option (Unit × ((List Int) × Unit))) (x : ((Int × Unit) × ((List Int) × ((List Int) × ((List Int) × Unit))))) : Option (Unit × ((List Int) × Unit)) :=
  bif (decide (x.1.1 < (((x.2.2.1).length : Nat) : Int))) then
    bif ((decide ((0 : Int) ≤ x.1.1)) && (decide (x.1.1 < (((x.2.2.1).length : Nat) : Int)))) then
      bif ((x.2.2.1.getD (x.1.1).toNat 0) == 1) then
        bif ((decide ((0 : Int) ≤ x.1.1)) && (((decide (x.1.1 = x.1.1)) && (decide ((x.1.1 * 8) ≤ 140737488355328))) && (decide (x.1.1 ≤ 140737488355328)))) then
          bif (decide (((((List.replicate (x.1.1).toNat (0 : Int))).length + (x.2.1).length) * 8) ≤ 140737488355328)) then
            (leatref02_Add N x.2.2.2.1 ((List.replicate (x.1.1).toNat (0 : Int)) ++ x.2.1)).bind fun r0 =>
            F (((IntKind.wrap .i64 (x.1.1 + 1)), ()), (x.2.1, (x.2.2.1, (r0, ()))))
          else none
        else none
      else F (((IntKind.wrap .i64 (x.1.1 + 1)), ()), (x.2.1, (x.2.2.1, (x.2.2.2.1, ()))))
    else none
  else some ((), (x.2.2.2.1, ()))
def leatref02_Mul (N : Nat) (a0 : (List Int)) (a1 : (List Int)) : Option (List Int) :=
  (iter (leatref02_Mul_L3 N) N ((0, ()), (a0, (a1, (([0] : List Int), ()))))).bind fun r0 =>
  some r0.2.1
def bits_Add64 (_N : Nat) (a0 : Int) (a1 : Int) (a2 : Int) : Option (Int × Int) := add64 a0 a1 a2
def wide_Add (N : Nat) (a0 : (Int × Int)) (a1 : (Int × Int)) : Option ((Int × Int) × Bool) :=
  (bits_Add64 N a0.2 a1.2 0).bind fun r0 =>
  (bits_Add64 N a0.1 a1.1 r0.2).bind fun r1 =>
  some ((r1.1, r0.1), (decide ((0 : Int) < r1.2)))
def leatref02_Wide (N : Nat) (a0 : Int) (a1 : Int) : Option (List Int) :=
  (leatref02_Bits N a1 64).bind fun r0 =>
  (leatref02_Bits N a0 64).bind fun r1 =>
  bif (decide ((((r0).length + (r1).length) * 8) ≤ 140737488355328)) then
    some (r0 ++ r1)
  else none
def leatlaw02_bits (N : Nat) (a0 : (Int × Int)) : Option (List Int) :=
  (leatref02_Wide N a0.1 a0.2).bind fun r0 =>
  some r0
def bits_Mul64 (_N : Nat) (a0 : Int) (a1 : Int) : Option (Int × Int) :=
  some ((IntKind.wrap .u64 ((IntKind.wrap .u64 ((IntKind.wrap .u64 ((Int.fdiv a0 4294967296) * (Int.fdiv a1 4294967296))) + (Int.fdiv (IntKind.wrap .u64 ((IntKind.wrap .u64 ((Int.fdiv a0 4294967296) * (bits .and .u64 a1 4294967295))) + (Int.fdiv (IntKind.wrap .u64 ((bits .and .u64 a0 4294967295) * (bits .and .u64 a1 4294967295))) 4294967296))) 4294967296))) + (Int.fdiv (IntKind.wrap .u64 ((bits .and .u64 (IntKind.wrap .u64 ((IntKind.wrap .u64 ((Int.fdiv a0 4294967296) * (bits .and .u64 a1 4294967295))) + (Int.fdiv (IntKind.wrap .u64 ((bits .and .u64 a0 4294967295) * (bits .and .u64 a1 4294967295))) 4294967296))) 4294967295) + (IntKind.wrap .u64 ((bits .and .u64 a0 4294967295) * (Int.fdiv a1 4294967296))))) 4294967296))), (IntKind.wrap .u64 (a0 * a1)))
def wide_Mul (N : Nat) (a0 : Int) (a1 : Int) : Option (Int × Int) :=
  (bits_Mul64 N a0 a1).bind fun r0 =>
  some r0
def leatref02_Cmp_L2 (_N : Nat) (F : ((Int × Unit) × ((List Int) × ((List Int) × Unit))) → Option (((Int × Unit) × Unit) ⊕ (Unit × Unit))) (x : ((Int × Unit) × ((List Int) × ((List Int) × Unit)))) : Option (((Int × Unit) × Unit) ⊕ (Unit × Unit)) :=
  bif (decide ((0 : Int) ≤ x.1.1)) then
    bif (decide (x.1.1 < (((x.2.1).length : Nat) : Int))) then
      bif ((decide ((0 : Int) ≤ x.1.1)) && (decide (x.1.1 < (((x.2.1).length : Nat) : Int)))) then
        bif (decide (x.1.1 < (((x.2.2.1).length : Nat) : Int))) then
          bif ((decide ((0 : Int) ≤ x.1.1)) && (decide (x.1.1 < (((x.2.2.1).length : Nat) : Int)))) then
            bif (decide ((x.2.1.getD (x.1.1).toNat 0) < (x.2.2.1.getD (x.1.1).toNat 0))) then
              some (.inl (((-1), ()), ()))
            else bif (decide ((x.2.2.1.getD (x.1.1).toNat 0) < (x.2.1.getD (x.1.1).toNat 0))) then
              some (.inl ((1, ()), ()))
            else F (((IntKind.wrap .i64 (x.1.1 - 1)), ()), (x.2.1, (x.2.2.1, ())))
          else none
        else bif (decide ((x.2.1.getD (x.1.1).toNat 0) < 0)) then
          some (.inl (((-1), ()), ()))
        else bif (decide ((0 : Int) < (x.2.1.getD (x.1.1).toNat 0))) then
          some (.inl ((1, ()), ()))
        else F (((IntKind.wrap .i64 (x.1.1 - 1)), ()), (x.2.1, (x.2.2.1, ())))
      else none
    else bif (decide (x.1.1 < (((x.2.2.1).length : Nat) : Int))) then
      bif ((decide ((0 : Int) ≤ x.1.1)) && (decide (x.1.1 < (((x.2.2.1).length : Nat) : Int)))) then
        bif (decide ((0 : Int) < (x.2.2.1.getD (x.1.1).toNat 0))) then
          some (.inl (((-1), ()), ()))
        else bif (decide ((x.2.2.1.getD (x.1.1).toNat 0) < 0)) then
          some (.inl ((1, ()), ()))
        else F (((IntKind.wrap .i64 (x.1.1 - 1)), ()), (x.2.1, (x.2.2.1, ())))
      else none
    else F (((IntKind.wrap .i64 (x.1.1 - 1)), ()), (x.2.1, (x.2.2.1, ())))
  else some (.inr ((), ()))
def leatref02_Cmp (N : Nat) (a0 : (List Int)) (a1 : (List Int)) : Option Int :=
  (iter (leatref02_Cmp_L2 N) N (((IntKind.wrap .i64 ((if (((a1).length : Nat) : Int) > (((a0).length : Nat) : Int) then (((a1).length : Nat) : Int) else (((a0).length : Nat) : Int)) - 1)), ()), (a0, (a1, ())))).bind fun r0 =>
  match r0 with
  | .inl r1 =>
    some r1.1.1
  | .inr _ =>
    some 0
def leatref02_Num_L3 (_N : Nat) (F : ((Int × (Int × (Int × Unit))) × ((List Int) × Unit)) → Option ((Int × Unit) × Unit)) (x : ((Int × (Int × (Int × Unit))) × ((List Int) × Unit))) : Option ((Int × Unit) × Unit) :=
  bif (decide ((0 : Int) ≤ x.1.2.2.1)) then
    bif ((decide ((IntKind.wrap .i64 (x.1.1 + x.1.2.2.1)) < (((x.2.1).length : Nat) : Int))) == true) then
      bif ((decide ((0 : Int) ≤ (IntKind.wrap .i64 (x.1.1 + x.1.2.2.1)))) && (decide ((IntKind.wrap .i64 (x.1.1 + x.1.2.2.1)) < (((x.2.1).length : Nat) : Int)))) then
        bif ((x.2.1.getD ((IntKind.wrap .i64 (x.1.1 + x.1.2.2.1))).toNat 0) == 1) then
          F ((x.1.1, ((IntKind.wrap .u64 ((IntKind.wrap .u64 (x.1.2.1 * 2)) + 1)), ((IntKind.wrap .i64 (x.1.2.2.1 - 1)), ()))), (x.2.1, ()))
        else F ((x.1.1, ((IntKind.wrap .u64 (x.1.2.1 * 2)), ((IntKind.wrap .i64 (x.1.2.2.1 - 1)), ()))), (x.2.1, ()))
      else none
    else F ((x.1.1, ((IntKind.wrap .u64 (x.1.2.1 * 2)), ((IntKind.wrap .i64 (x.1.2.2.1 - 1)), ()))), (x.2.1, ()))
  else some ((x.1.2.1, ()), ())
def leatref02_Num (N : Nat) (a0 : (List Int)) (a1 : Int) : Option Int :=
  (iter (leatref02_Num_L3 N) N ((a1, (0, (63, ()))), (a0, ()))).bind fun r0 =>
  some r0.1.1
def cmp_isNaN_uint64 (_N : Nat) (a0 : Int) : Option Bool :=
  some (!(a0 == a0))
def cmp_Compare_uint64 (N : Nat) (a0 : Int) (a1 : Int) : Option Int :=
  (cmp_isNaN_uint64 N a0).bind fun r0 =>
  (cmp_isNaN_uint64 N a1).bind fun r1 =>
  bif r0 then
    bif r1 then
      some 0
    else some (-1)
  else bif r1 then
    some 1
  else bif (decide (a0 < a1)) then
    some (-1)
  else bif (decide (a1 < a0)) then
    some 1
  else some 0
def cmp_Or_int_L3 (_N : Nat) (F : ((Int × (Int × (Int × Unit))) × ((List Int) × Unit)) → Option (((Int × Unit) × Unit) ⊕ ((Int × Unit) × Unit))) (x : ((Int × (Int × (Int × Unit))) × ((List Int) × Unit))) : Option (((Int × Unit) × Unit) ⊕ ((Int × Unit) × Unit)) :=
  bif (decide (x.1.2.2.1 < x.1.2.1)) then
    bif ((decide ((0 : Int) ≤ x.1.2.2.1)) && (decide (x.1.2.2.1 < (((x.2.1).length : Nat) : Int)))) then
      bif (!((x.2.1.getD (x.1.2.2.1).toNat 0) == x.1.1)) then
        some (.inl (((x.2.1.getD (x.1.2.2.1).toNat 0), ()), ()))
      else F ((x.1.1, (x.1.2.1, ((IntKind.wrap .i64 (x.1.2.2.1 + 1)), ()))), (x.2.1, ()))
    else none
  else some (.inr ((x.1.1, ()), ()))
def cmp_Or_int (N : Nat) (a0 : (List Int)) : Option Int :=
  (iter (cmp_Or_int_L3 N) N ((0, ((((a0).length : Nat) : Int), (0, ()))), (a0, ()))).bind fun r0 =>
  match r0 with
  | .inl r1 =>
    some r1.1.1
  | .inr r2 =>
    some r2.1.1
def wide_Cmp (N : Nat) (a0 : (Int × Int)) (a1 : (Int × Int)) : Option Int :=
  bif ((a0.1 == a1.1) && ((a0.2 == a1.2) && true)) then
    some 0
  else (cmp_Compare_uint64 N a0.1 a1.1).bind fun r0 =>
  (cmp_Compare_uint64 N a0.2 a1.2).bind fun r1 =>
  (cmp_Or_int N ([r0, r1] : List Int)).bind fun r2 =>
  some r2
def bits_Len64_tab0 : ByteArray := bytesL [0, 1, 2, 2, 3, 3, 3, 3, 4, 4, 4, 4, 4, 4, 4, 4, 5, 5, 5, 5, 5, 5, 5, 5, 5, 5, 5, 5, 5, 5, 5, 5, 6, 6, 6, 6, 6, 6, 6, 6, 6, 6, 6, 6, 6, 6, 6, 6, 6, 6, 6, 6, 6, 6, 6, 6, 6, 6, 6, 6, 6, 6, 6, 6, 7, 7, 7, 7, 7, 7, 7, 7, 7, 7, 7, 7, 7, 7, 7, 7, 7, 7, 7, 7, 7, 7, 7, 7, 7, 7, 7, 7, 7, 7, 7, 7, 7, 7, 7, 7, 7, 7, 7, 7, 7, 7, 7, 7, 7, 7, 7, 7, 7, 7, 7, 7, 7, 7, 7, 7, 7, 7, 7, 7, 7, 7, 7, 7, 8, 8, 8, 8, 8, 8, 8, 8, 8, 8, 8, 8, 8, 8, 8, 8, 8, 8, 8, 8, 8, 8, 8, 8, 8, 8, 8, 8, 8, 8, 8, 8, 8, 8, 8, 8, 8, 8, 8, 8, 8, 8, 8, 8, 8, 8, 8, 8, 8, 8, 8, 8, 8, 8, 8, 8, 8, 8, 8, 8, 8, 8, 8, 8, 8, 8, 8, 8, 8, 8, 8, 8, 8, 8, 8, 8, 8, 8, 8, 8, 8, 8, 8, 8, 8, 8, 8, 8, 8, 8, 8, 8, 8, 8, 8, 8, 8, 8, 8, 8, 8, 8, 8, 8, 8, 8, 8, 8, 8, 8, 8, 8, 8, 8, 8, 8, 8, 8, 8, 8, 8, 8, 8, 8, 8, 8, 8, 8]
def bits_Len64 (_N : Nat) (a0 : Int) : Option Int :=
  bif (decide ((4294967296 : Int) ≤ a0)) then
    bif (decide ((65536 : Int) ≤ (Int.fdiv a0 4294967296))) then
      bif (decide ((256 : Int) ≤ (Int.fdiv (Int.fdiv a0 4294967296) 65536))) then
        bif ((decide ((0 : Int) ≤ (IntKind.wrap .u8 (Int.fdiv (Int.fdiv (Int.fdiv a0 4294967296) 65536) 256)))) && (decide ((IntKind.wrap .u8 (Int.fdiv (Int.fdiv (Int.fdiv a0 4294967296) 65536) 256)) < (((bits_Len64_tab0).size : Nat) : Int)))) then
          some (IntKind.wrap .i64 (56 + (IntKind.wrap .i64 (byteAt bits_Len64_tab0 (IntKind.wrap .u8 (Int.fdiv (Int.fdiv (Int.fdiv a0 4294967296) 65536) 256))))))
        else none
      else bif ((decide ((0 : Int) ≤ (IntKind.wrap .u8 (Int.fdiv (Int.fdiv a0 4294967296) 65536)))) && (decide ((IntKind.wrap .u8 (Int.fdiv (Int.fdiv a0 4294967296) 65536)) < (((bits_Len64_tab0).size : Nat) : Int)))) then
        some (IntKind.wrap .i64 (48 + (IntKind.wrap .i64 (byteAt bits_Len64_tab0 (IntKind.wrap .u8 (Int.fdiv (Int.fdiv a0 4294967296) 65536))))))
      else none
    else bif (decide ((256 : Int) ≤ (Int.fdiv a0 4294967296))) then
      bif ((decide ((0 : Int) ≤ (IntKind.wrap .u8 (Int.fdiv (Int.fdiv a0 4294967296) 256)))) && (decide ((IntKind.wrap .u8 (Int.fdiv (Int.fdiv a0 4294967296) 256)) < (((bits_Len64_tab0).size : Nat) : Int)))) then
        some (IntKind.wrap .i64 (40 + (IntKind.wrap .i64 (byteAt bits_Len64_tab0 (IntKind.wrap .u8 (Int.fdiv (Int.fdiv a0 4294967296) 256))))))
      else none
    else bif ((decide ((0 : Int) ≤ (IntKind.wrap .u8 (Int.fdiv a0 4294967296)))) && (decide ((IntKind.wrap .u8 (Int.fdiv a0 4294967296)) < (((bits_Len64_tab0).size : Nat) : Int)))) then
      some (IntKind.wrap .i64 (32 + (IntKind.wrap .i64 (byteAt bits_Len64_tab0 (IntKind.wrap .u8 (Int.fdiv a0 4294967296))))))
    else none
  else bif (decide ((65536 : Int) ≤ a0)) then
    bif (decide ((256 : Int) ≤ (Int.fdiv a0 65536))) then
      bif ((decide ((0 : Int) ≤ (IntKind.wrap .u8 (Int.fdiv (Int.fdiv a0 65536) 256)))) && (decide ((IntKind.wrap .u8 (Int.fdiv (Int.fdiv a0 65536) 256)) < (((bits_Len64_tab0).size : Nat) : Int)))) then
        some (IntKind.wrap .i64 (24 + (IntKind.wrap .i64 (byteAt bits_Len64_tab0 (IntKind.wrap .u8 (Int.fdiv (Int.fdiv a0 65536) 256))))))
      else none
    else bif ((decide ((0 : Int) ≤ (IntKind.wrap .u8 (Int.fdiv a0 65536)))) && (decide ((IntKind.wrap .u8 (Int.fdiv a0 65536)) < (((bits_Len64_tab0).size : Nat) : Int)))) then
      some (IntKind.wrap .i64 (16 + (IntKind.wrap .i64 (byteAt bits_Len64_tab0 (IntKind.wrap .u8 (Int.fdiv a0 65536))))))
    else none
  else bif (decide ((256 : Int) ≤ a0)) then
    bif ((decide ((0 : Int) ≤ (IntKind.wrap .u8 (Int.fdiv a0 256)))) && (decide ((IntKind.wrap .u8 (Int.fdiv a0 256)) < (((bits_Len64_tab0).size : Nat) : Int)))) then
      some (IntKind.wrap .i64 (8 + (IntKind.wrap .i64 (byteAt bits_Len64_tab0 (IntKind.wrap .u8 (Int.fdiv a0 256))))))
    else none
  else bif ((decide ((0 : Int) ≤ (IntKind.wrap .u8 a0))) && (decide ((IntKind.wrap .u8 a0) < (((bits_Len64_tab0).size : Nat) : Int)))) then
    some (IntKind.wrap .i64 (0 + (IntKind.wrap .i64 (byteAt bits_Len64_tab0 (IntKind.wrap .u8 a0)))))
  else none
def bits_LeadingZeros64 (N : Nat) (a0 : Int) : Option Int :=
  (bits_Len64 N a0).bind fun r0 =>
  some (IntKind.wrap .i64 (64 - r0))
def bits_Div64_L17 (_N : Nat) (F : ((Int × (Int × (Int × (Int × (Int × (Int × (Int × (Int × (Int × Unit))))))))) × Unit) → Option ((Int × (Int × (Int × (Int × (Int × (Int × (Int × (Int × Unit)))))))) × Unit)) (x : ((Int × (Int × (Int × (Int × (Int × (Int × (Int × (Int × (Int × Unit))))))))) × Unit)) : Option ((Int × (Int × (Int × (Int × (Int × (Int × (Int × (Int × Unit)))))))) × Unit) :=
  bif ((decide ((4294967296 : Int) ≤ x.1.2.2.2.2.2.2.2.1)) == false) then
    bif (decide ((IntKind.wrap .u64 ((IntKind.wrap .u64 (4294967296 * x.1.2.2.2.2.2.2.2.2.1)) + x.1.2.2.2.2.2.1)) < (IntKind.wrap .u64 (x.1.2.2.2.2.2.2.2.1 * x.1.2.2.2.1)))) then
      bif (decide ((4294967296 : Int) ≤ (IntKind.wrap .u64 (x.1.2.2.2.2.2.2.2.2.1 + x.1.2.2.1)))) then
        some ((x.1.1, (x.1.2.1, (x.1.2.2.1, (x.1.2.2.2.1, (x.1.2.2.2.2.1, (x.1.2.2.2.2.2.1, (x.1.2.2.2.2.2.2.1, ((IntKind.wrap .u64 (x.1.2.2.2.2.2.2.2.1 - 1)), ())))))))), ())
      else F ((x.1.1, (x.1.2.1, (x.1.2.2.1, (x.1.2.2.2.1, (x.1.2.2.2.2.1, (x.1.2.2.2.2.2.1, (x.1.2.2.2.2.2.2.1, ((IntKind.wrap .u64 (x.1.2.2.2.2.2.2.2.1 - 1)), ((IntKind.wrap .u64 (x.1.2.2.2.2.2.2.2.2.1 + x.1.2.2.1)), ()))))))))), ())
    else some ((x.1.1, (x.1.2.1, (x.1.2.2.1, (x.1.2.2.2.1, (x.1.2.2.2.2.1, (x.1.2.2.2.2.2.1, (x.1.2.2.2.2.2.2.1, (x.1.2.2.2.2.2.2.2.1, ())))))))), ())
  else bif (decide ((4294967296 : Int) ≤ (IntKind.wrap .u64 (x.1.2.2.2.2.2.2.2.2.1 + x.1.2.2.1)))) then
    some ((x.1.1, (x.1.2.1, (x.1.2.2.1, (x.1.2.2.2.1, (x.1.2.2.2.2.1, (x.1.2.2.2.2.2.1, (x.1.2.2.2.2.2.2.1, ((IntKind.wrap .u64 (x.1.2.2.2.2.2.2.2.1 - 1)), ())))))))), ())
  else F ((x.1.1, (x.1.2.1, (x.1.2.2.1, (x.1.2.2.2.1, (x.1.2.2.2.2.1, (x.1.2.2.2.2.2.1, (x.1.2.2.2.2.2.2.1, ((IntKind.wrap .u64 (x.1.2.2.2.2.2.2.2.1 - 1)), ((IntKind.wrap .u64 (x.1.2.2.2.2.2.2.2.2.1 + x.1.2.2.1)), ()))))))))), ())
def bits_Div64_L24 (_N : Nat) (F : ((Int × (Int × (Int × (Int × (Int × (Int × (Int × (Int × (Int × Unit))))))))) × Unit) → Option ((Int × (Int × (Int × (Int × (Int × (Int × Unit)))))) × Unit)) (x : ((Int × (Int × (Int × (Int × (Int × (Int × (Int × (Int × (Int × Unit))))))))) × Unit)) : Option ((Int × (Int × (Int × (Int × (Int × (Int × Unit)))))) × Unit) :=
  bif ((decide ((4294967296 : Int) ≤ x.1.2.2.2.2.2.2.2.2.1)) == false) then
    bif (decide ((IntKind.wrap .u64 ((IntKind.wrap .u64 (4294967296 * x.1.2.2.2.2.2.2.1)) + x.1.2.2.2.2.1)) < (IntKind.wrap .u64 (x.1.2.2.2.2.2.2.2.2.1 * x.1.2.2.2.1)))) then
      bif (decide ((4294967296 : Int) ≤ (IntKind.wrap .u64 (x.1.2.2.2.2.2.2.1 + x.1.2.2.1)))) then
        some ((x.1.1, (x.1.2.1, (x.1.2.2.2.2.1, (x.1.2.2.2.2.2.1, (x.1.2.2.2.2.2.2.2.1, ((IntKind.wrap .u64 (x.1.2.2.2.2.2.2.2.2.1 - 1)), ())))))), ())
      else F ((x.1.1, (x.1.2.1, (x.1.2.2.1, (x.1.2.2.2.1, (x.1.2.2.2.2.1, (x.1.2.2.2.2.2.1, ((IntKind.wrap .u64 (x.1.2.2.2.2.2.2.1 + x.1.2.2.1)), (x.1.2.2.2.2.2.2.2.1, ((IntKind.wrap .u64 (x.1.2.2.2.2.2.2.2.2.1 - 1)), ()))))))))), ())
    else some ((x.1.1, (x.1.2.1, (x.1.2.2.2.2.1, (x.1.2.2.2.2.2.1, (x.1.2.2.2.2.2.2.2.1, (x.1.2.2.2.2.2.2.2.2.1, ())))))), ())
  else bif (decide ((4294967296 : Int) ≤ (IntKind.wrap .u64 (x.1.2.2.2.2.2.2.1 + x.1.2.2.1)))) then
    some ((x.1.1, (x.1.2.1, (x.1.2.2.2.2.1, (x.1.2.2.2.2.2.1, (x.1.2.2.2.2.2.2.2.1, ((IntKind.wrap .u64 (x.1.2.2.2.2.2.2.2.2.1 - 1)), ())))))), ())
  else F ((x.1.1, (x.1.2.1, (x.1.2.2.1, (x.1.2.2.2.1, (x.1.2.2.2.2.1, (x.1.2.2.2.2.2.1, ((IntKind.wrap .u64 (x.1.2.2.2.2.2.2.1 + x.1.2.2.1)), (x.1.2.2.2.2.2.2.2.1, ((IntKind.wrap .u64 (x.1.2.2.2.2.2.2.2.2.1 - 1)), ()))))))))), ())
def bits_Div64 (N : Nat) (a0 : Int) (a1 : Int) (a2 : Int) : Option (Int × Int) :=
  bif (a2 == 0) then
    none
  else bif (decide (a2 ≤ a0)) then
    none
  else bif (a0 == 0) then
    bif (!(decide (a2 = 0))) then
      bif (!(decide (a2 = 0))) then
        some ((IntKind.wrap .u64 (Int.tdiv a1 a2)), (Int.tmod a1 a2))
      else none
    else none
  else (bits_LeadingZeros64 N a2).bind fun r0 =>
  bif (!(decide ((IntKind.wrap .u64 r0) < 0))) then
    bif (!(decide ((IntKind.wrap .u64 r0) < 0))) then
      bif (!(decide ((IntKind.wrap .u64 (64 - (IntKind.wrap .u64 r0))) < 0))) then
        bif (!(decide ((IntKind.wrap .u64 r0) < 0))) then
          bif (!(decide ((Int.fdiv (IntKind.wrap .u64 (a2 * 2 ^ (min ((IntKind.wrap .u64 r0)).toNat 64))) 4294967296) = 0))) then
            (iter (bits_Div64_L17 N) N (((IntKind.wrap .u64 (a2 * 2 ^ (min ((IntKind.wrap .u64 r0)).toNat 64))), ((IntKind.wrap .u64 r0), ((Int.fdiv (IntKind.wrap .u64 (a2 * 2 ^ (min ((IntKind.wrap .u64 r0)).toNat 64))) 4294967296), ((bits .and .u64 (IntKind.wrap .u64 (a2 * 2 ^ (min ((IntKind.wrap .u64 r0)).toNat 64))) 4294967295), ((bits .or .u64 (IntKind.wrap .u64 (a0 * 2 ^ (min ((IntKind.wrap .u64 r0)).toNat 64))) (Int.fdiv a1 (2 ^ (min ((IntKind.wrap .u64 (64 - (IntKind.wrap .u64 r0)))).toNat 64)))), ((Int.fdiv (IntKind.wrap .u64 (a1 * 2 ^ (min ((IntKind.wrap .u64 r0)).toNat 64))) 4294967296), ((bits .and .u64 (IntKind.wrap .u64 (a1 * 2 ^ (min ((IntKind.wrap .u64 r0)).toNat 64))) 4294967295), ((IntKind.wrap .u64 (Int.tdiv (bits .or .u64 (IntKind.wrap .u64 (a0 * 2 ^ (min ((IntKind.wrap .u64 r0)).toNat 64))) (Int.fdiv a1 (2 ^ (min ((IntKind.wrap .u64 (64 - (IntKind.wrap .u64 r0)))).toNat 64)))) (Int.fdiv (IntKind.wrap .u64 (a2 * 2 ^ (min ((IntKind.wrap .u64 r0)).toNat 64))) 4294967296))), ((IntKind.wrap .u64 ((bits .or .u64 (IntKind.wrap .u64 (a0 * 2 ^ (min ((IntKind.wrap .u64 r0)).toNat 64))) (Int.fdiv a1 (2 ^ (min ((IntKind.wrap .u64 (64 - (IntKind.wrap .u64 r0)))).toNat 64)))) - (IntKind.wrap .u64 ((IntKind.wrap .u64 (Int.tdiv (bits .or .u64 (IntKind.wrap .u64 (a0 * 2 ^ (min ((IntKind.wrap .u64 r0)).toNat 64))) (Int.fdiv a1 (2 ^ (min ((IntKind.wrap .u64 (64 - (IntKind.wrap .u64 r0)))).toNat 64)))) (Int.fdiv (IntKind.wrap .u64 (a2 * 2 ^ (min ((IntKind.wrap .u64 r0)).toNat 64))) 4294967296))) * (Int.fdiv (IntKind.wrap .u64 (a2 * 2 ^ (min ((IntKind.wrap .u64 r0)).toNat 64))) 4294967296))))), ()))))))))), ())).bind fun r1 =>
            bif (!(decide (r1.1.2.2.1 = 0))) then
              (iter (bits_Div64_L24 N) N ((r1.1.1, (r1.1.2.1, (r1.1.2.2.1, (r1.1.2.2.2.1, (r1.1.2.2.2.2.2.2.1, (r1.1.2.2.2.2.2.2.2.1, ((IntKind.wrap .u64 ((IntKind.wrap .u64 ((IntKind.wrap .u64 ((IntKind.wrap .u64 (r1.1.2.2.2.2.1 * 4294967296)) + r1.1.2.2.2.2.2.1)) - (IntKind.wrap .u64 (r1.1.2.2.2.2.2.2.2.1 * r1.1.1)))) - (IntKind.wrap .u64 ((IntKind.wrap .u64 (Int.tdiv (IntKind.wrap .u64 ((IntKind.wrap .u64 ((IntKind.wrap .u64 (r1.1.2.2.2.2.1 * 4294967296)) + r1.1.2.2.2.2.2.1)) - (IntKind.wrap .u64 (r1.1.2.2.2.2.2.2.2.1 * r1.1.1)))) r1.1.2.2.1)) * r1.1.2.2.1)))), ((IntKind.wrap .u64 ((IntKind.wrap .u64 ((IntKind.wrap .u64 (r1.1.2.2.2.2.1 * 4294967296)) + r1.1.2.2.2.2.2.1)) - (IntKind.wrap .u64 (r1.1.2.2.2.2.2.2.2.1 * r1.1.1)))), ((IntKind.wrap .u64 (Int.tdiv (IntKind.wrap .u64 ((IntKind.wrap .u64 ((IntKind.wrap .u64 (r1.1.2.2.2.2.1 * 4294967296)) + r1.1.2.2.2.2.2.1)) - (IntKind.wrap .u64 (r1.1.2.2.2.2.2.2.2.1 * r1.1.1)))) r1.1.2.2.1)), ()))))))))), ())).bind fun r2 =>
              bif (!(decide (r2.1.2.1 < 0))) then
                some ((IntKind.wrap .u64 ((IntKind.wrap .u64 (r2.1.2.2.2.1 * 4294967296)) + r2.1.2.2.2.2.2.1)), (Int.fdiv (IntKind.wrap .u64 ((IntKind.wrap .u64 ((IntKind.wrap .u64 (r2.1.2.2.2.2.1 * 4294967296)) + r2.1.2.2.1)) - (IntKind.wrap .u64 (r2.1.2.2.2.2.2.1 * r2.1.1)))) (2 ^ (min (r2.1.2.1).toNat 64))))
              else none
            else none
          else none
        else none
      else none
    else none
  else none
def wide_Div (N : Nat) (a0 : (Int × Int)) (a1 : Int) : Option ((Int × Int) × Int) :=
  bif (a1 == 0) then
    some ((0, 0), 0)
  else bif (!(decide (a1 = 0))) then
    bif (!(decide (a1 = 0))) then
      (bits_Div64 N (Int.tmod a0.1 a1) a0.2 a1).bind fun r0 =>
      some (((IntKind.wrap .u64 (Int.tdiv a0.1 a1)), r0.1), r0.2)
    else none
  else none
def wide_muldiv (N : Nat) (a0 : Int) (a1 : Int) (a2 : Int) : Option ((Int × Int) × (Bool × Int)) :=
  bif ((decide (a0 < 0)) == false) then
    bif ((decide (a1 < 0)) == false) then
      bif (decide (a2 ≤ 0)) then
        some ((0, 0), (false, 1))
      else (wide_Mul N (IntKind.wrap .u64 a0) (IntKind.wrap .u64 a1)).bind fun r0 =>
      (wide_Div N r0 (IntKind.wrap .u64 a2)).bind fun r1 =>
      some (r1.1, ((decide ((0 : Int) < r1.2)), 0))
    else some ((0, 0), (false, 1))
  else some ((0, 0), (false, 1))
def wide_told (N : Nat) (a0 : (Int × Int)) (a1 : Int) : Option (Int × Int) :=
  bif (!(a1 == 0)) then
    some (0, a1)
  else (wide_Cmp N a0 (0, 9223372036854775807)).bind fun r0 =>
  bif (decide ((0 : Int) < r0)) then
    some (0, 8)
  else some ((IntKind.wrap .i64 a0.2), 0)
def wide_MulDiv (N : Nat) (a0 : Int) (a1 : Int) (a2 : Int) : Option (Int × Int) :=
  (wide_muldiv N a0 a1 a2).bind fun r0 =>
  (wide_told N r0.1 r0.2.2).bind fun r1 =>
  some r1
def wide_MulDivUp (N : Nat) (a0 : Int) (a1 : Int) (a2 : Int) : Option (Int × Int) :=
  (wide_muldiv N a0 a1 a2).bind fun r0 =>
  bif r0.2.1 then
    (wide_Add N r0.1 (0, 1)).bind fun r1 =>
    (wide_told N r1.1 r0.2.2).bind fun r2 =>
    some r2
  else (wide_told N r0.1 r0.2.2).bind fun r3 =>
  some r3
def leatlaw02_works (N : Nat) : Option Bool :=
  (wide_MulDiv N 7 5 3).bind fun r0 =>
  (wide_MulDivUp N 7 5 3).bind fun r1 =>
  bif ((r0.1 == 11) == true) then
    bif ((r1.1 == 12) == true) then
      bif ((r0.2 == 0) == true) then
        some (r1.2 == 0)
      else some false
    else some false
  else some false
def leatref02_Sub_L4 (_N : Nat) (F : ((Int × (Int × Unit)) × ((List Int) × ((List Int) × ((List Int) × Unit)))) → Option (Unit × ((List Int) × Unit))) (x : ((Int × (Int × Unit)) × ((List Int) × ((List Int) × ((List Int) × Unit))))) : Option (Unit × ((List Int) × Unit)) :=
  bif (decide (x.1.2.1 < (((x.2.1).length : Nat) : Int))) then
    bif ((decide ((0 : Int) ≤ x.1.2.1)) && (decide (x.1.2.1 < (((x.2.1).length : Nat) : Int)))) then
      bif (decide (x.1.2.1 < (((x.2.2.1).length : Nat) : Int))) then
        bif ((decide ((0 : Int) ≤ x.1.2.1)) && (decide (x.1.2.1 < (((x.2.2.1).length : Nat) : Int)))) then
          bif (decide ((IntKind.wrap .i64 ((IntKind.wrap .i64 ((x.2.1.getD (x.1.2.1).toNat 0) - x.1.1)) - (x.2.2.1.getD (x.1.2.1).toNat 0))) < 0)) then
            bif (decide ((((x.2.2.2.1).length + (([(IntKind.wrap .i64 ((IntKind.wrap .i64 ((IntKind.wrap .i64 ((x.2.1.getD (x.1.2.1).toNat 0) - x.1.1)) - (x.2.2.1.getD (x.1.2.1).toNat 0))) + 2))] : List Int)).length) * 8) ≤ 140737488355328)) then
              F ((1, ((IntKind.wrap .i64 (x.1.2.1 + 1)), ())), (x.2.1, (x.2.2.1, ((x.2.2.2.1 ++ ([(IntKind.wrap .i64 ((IntKind.wrap .i64 ((IntKind.wrap .i64 ((x.2.1.getD (x.1.2.1).toNat 0) - x.1.1)) - (x.2.2.1.getD (x.1.2.1).toNat 0))) + 2))] : List Int)), ()))))
            else none
          else bif (decide ((((x.2.2.2.1).length + (([(IntKind.wrap .i64 ((IntKind.wrap .i64 ((x.2.1.getD (x.1.2.1).toNat 0) - x.1.1)) - (x.2.2.1.getD (x.1.2.1).toNat 0)))] : List Int)).length) * 8) ≤ 140737488355328)) then
            F ((0, ((IntKind.wrap .i64 (x.1.2.1 + 1)), ())), (x.2.1, (x.2.2.1, ((x.2.2.2.1 ++ ([(IntKind.wrap .i64 ((IntKind.wrap .i64 ((x.2.1.getD (x.1.2.1).toNat 0) - x.1.1)) - (x.2.2.1.getD (x.1.2.1).toNat 0)))] : List Int)), ()))))
          else none
        else none
      else bif (decide ((IntKind.wrap .i64 ((x.2.1.getD (x.1.2.1).toNat 0) - x.1.1)) < 0)) then
        bif (decide ((((x.2.2.2.1).length + (([(IntKind.wrap .i64 ((IntKind.wrap .i64 ((x.2.1.getD (x.1.2.1).toNat 0) - x.1.1)) + 2))] : List Int)).length) * 8) ≤ 140737488355328)) then
          F ((1, ((IntKind.wrap .i64 (x.1.2.1 + 1)), ())), (x.2.1, (x.2.2.1, ((x.2.2.2.1 ++ ([(IntKind.wrap .i64 ((IntKind.wrap .i64 ((x.2.1.getD (x.1.2.1).toNat 0) - x.1.1)) + 2))] : List Int)), ()))))
        else none
      else bif (decide ((((x.2.2.2.1).length + (([(IntKind.wrap .i64 ((x.2.1.getD (x.1.2.1).toNat 0) - x.1.1))] : List Int)).length) * 8) ≤ 140737488355328)) then
        F ((0, ((IntKind.wrap .i64 (x.1.2.1 + 1)), ())), (x.2.1, (x.2.2.1, ((x.2.2.2.1 ++ ([(IntKind.wrap .i64 ((x.2.1.getD (x.1.2.1).toNat 0) - x.1.1))] : List Int)), ()))))
      else none
    else none
  else some ((), (x.2.2.2.1, ()))
def leatref02_Sub (N : Nat) (a0 : (List Int)) (a1 : (List Int)) : Option (List Int) :=
  (iter (leatref02_Sub_L4 N) N ((0, (0, ())), (a0, (a1, (([] : List Int), ()))))).bind fun r0 =>
  some r0.2.1
def leatref02_Div_L4 (N : Nat) (F : ((Int × Unit) × ((List Int) × ((List Int) × ((List Int) × ((List Int) × Unit))))) → Option (Unit × ((List Int) × ((List Int) × Unit)))) (x : ((Int × Unit) × ((List Int) × ((List Int) × ((List Int) × ((List Int) × Unit)))))) : Option (Unit × ((List Int) × ((List Int) × Unit))) :=
  bif (decide ((0 : Int) ≤ x.1.1)) then
    bif ((decide ((0 : Int) ≤ x.1.1)) && (decide (x.1.1 < (((x.2.1).length : Nat) : Int)))) then
      bif (decide ((((([(x.2.1.getD (x.1.1).toNat 0)] : List Int)).length + (x.2.2.2.2.1).length) * 8) ≤ 140737488355328)) then
        (leatref02_Cmp N (([(x.2.1.getD (x.1.1).toNat 0)] : List Int) ++ x.2.2.2.2.1) x.2.2.1).bind fun r0 =>
        bif (decide ((0 : Int) ≤ r0)) then
          (leatref02_Sub N (([(x.2.1.getD (x.1.1).toNat 0)] : List Int) ++ x.2.2.2.2.1) x.2.2.1).bind fun r1 =>
          bif ((decide ((0 : Int) ≤ x.1.1)) && (decide (x.1.1 < (((x.2.2.2.1).length : Nat) : Int)))) then
            F (((IntKind.wrap .i64 (x.1.1 - 1)), ()), (x.2.1, (x.2.2.1, ((x.2.2.2.1.set (x.1.1).toNat 1), (r1, ())))))
          else none
        else F (((IntKind.wrap .i64 (x.1.1 - 1)), ()), (x.2.1, (x.2.2.1, (x.2.2.2.1, ((([(x.2.1.getD (x.1.1).toNat 0)] : List Int) ++ x.2.2.2.2.1), ())))))
      else none
    else none
  else some ((), (x.2.2.2.1, (x.2.2.2.2.1, ())))
def leatref02_Div (N : Nat) (a0 : (List Int)) (a1 : (List Int)) : Option ((List Int) × (List Int)) :=
  bif ((decide ((0 : Int) ≤ (((a0).length : Nat) : Int))) && (((decide ((((a0).length : Nat) : Int) = (((a0).length : Nat) : Int))) && (decide (((((a0).length : Nat) : Int) * 8) ≤ 140737488355328))) && (decide ((((a0).length : Nat) : Int) ≤ 140737488355328)))) then
    (iter (leatref02_Div_L4 N) N (((IntKind.wrap .i64 ((((a0).length : Nat) : Int) - 1)), ()), (a0, (a1, ((List.replicate ((((a0).length : Nat) : Int)).toNat (0 : Int)), (([0] : List Int), ())))))).bind fun r0 =>
    some (r0.2.1, r0.2.2.1)
  else none
def leatref02_MulDiv (N : Nat) (a0 : Int) (a1 : Int) (a2 : Int) (a3 : Bool) : Option (Int × Int) :=
  bif ((decide (a0 < 0)) == false) then
    bif ((decide (a1 < 0)) == false) then
      bif (decide (a2 ≤ 0)) then
        some (0, 1)
      else (leatref02_Bits N (IntKind.wrap .u64 a0) 64).bind fun r0 =>
      (leatref02_Bits N (IntKind.wrap .u64 a1) 64).bind fun r1 =>
      (leatref02_Mul N r0 r1).bind fun r2 =>
      (leatref02_Bits N (IntKind.wrap .u64 a2) 64).bind fun r3 =>
      (leatref02_Div N r2 r3).bind fun r4 =>
      bif (a3 == true) then
        (leatref02_Cmp N r4.2 ([0] : List Int)).bind fun r5 =>
        bif (decide ((0 : Int) < r5)) then
          (leatref02_Add N r4.1 ([1] : List Int)).bind fun r6 =>
          (leatref02_Bits N 9223372036854775807 64).bind fun r7 =>
          (leatref02_Cmp N r6 r7).bind fun r8 =>
          bif (decide ((0 : Int) < r8)) then
            some (0, 8)
          else (leatref02_Num N r6 0).bind fun r9 =>
          some ((IntKind.wrap .i64 r9), 0)
        else (leatref02_Bits N 9223372036854775807 64).bind fun r10 =>
        (leatref02_Cmp N r4.1 r10).bind fun r11 =>
        bif (decide ((0 : Int) < r11)) then
          some (0, 8)
        else (leatref02_Num N r4.1 0).bind fun r12 =>
        some ((IntKind.wrap .i64 r12), 0)
      else (leatref02_Bits N 9223372036854775807 64).bind fun r13 =>
      (leatref02_Cmp N r4.1 r13).bind fun r14 =>
      bif (decide ((0 : Int) < r14)) then
        some (0, 8)
      else (leatref02_Num N r4.1 0).bind fun r15 =>
      some ((IntKind.wrap .i64 r15), 0)
    else some (0, 1)
  else some (0, 1)
def leatlaw02_WideMulDivs (N : Nat) (a0 : Int) (a1 : Int) (a2 : Int) : Option Bool :=
  (wide_MulDiv N a0 a1 a2).bind fun r0 =>
  (wide_MulDivUp N a0 a1 a2).bind fun r1 =>
  (leatref02_MulDiv N a0 a1 a2 false).bind fun r2 =>
  (leatref02_MulDiv N a0 a1 a2 true).bind fun r3 =>
  bif ((r0.1 == r2.1) == true) then
    bif ((r0.2 == r2.2) == true) then
      bif ((r1.1 == r3.1) == true) then
        bif ((r1.2 == r3.2) == true) then
          (leatlaw02_works N).bind fun r4 =>
          some r4
        else some false
      else some false
    else some false
  else some false
def leatlaw02_WideBack (N : Nat) (a0 : Int) (a1 : Int) (a2 : (Int × Int)) : Option Bool :=
  bif (a1 == 0) then
    (leatlaw02_works N).bind fun r0 =>
    some r0
  else (wide_Mul N a0 a1).bind fun r1 =>
  (wide_Div N r1 a1).bind fun r2 =>
  (wide_Div N a2 a1).bind fun r3 =>
  (wide_Mul N r3.1.2 a1).bind fun r4 =>
  (wide_Mul N r3.1.1 a1).bind fun r5 =>
  (wide_Add N r4 (0, r3.2)).bind fun r6 =>
  (wide_Add N r6.1 (r5.2, 0)).bind fun r7 =>
  bif (((r2.1.1 == 0) && ((r2.1.2 == a0) && true)) == true) then
    bif ((r2.2 == 0) == true) then
      bif ((decide (r3.2 < a1)) == true) then
        bif ((r5.1 == 0) == true) then
          bif ((!r6.2) == true) then
            bif ((!r7.2) == true) then
              bif (((r7.1.1 == a2.1) && ((r7.1.2 == a2.2) && true)) == true) then
                (leatlaw02_works N).bind fun r8 =>
                some r8
              else some false
            else some false
          else some false
        else some false
      else some false
    else some false
  else some false
def wide_Root_L3 (N : Nat) (F : ((Int × (Int × Unit)) × ((Int × (Int × Unit)) × Unit)) → Option ((Int × Unit) × Unit)) (x : ((Int × (Int × Unit)) × ((Int × (Int × Unit)) × Unit))) : Option ((Int × Unit) × Unit) :=
  bif (decide ((0 : Int) ≤ x.1.2.1)) then
    bif (!(decide (x.1.2.1 < 0))) then
      (wide_Mul N (bits .or .u64 x.1.1 (IntKind.wrap .u64 (1 * 2 ^ (min (x.1.2.1).toNat 64)))) (bits .or .u64 x.1.1 (IntKind.wrap .u64 (1 * 2 ^ (min (x.1.2.1).toNat 64))))).bind fun r0 =>
      (wide_Cmp N r0 (x.2.1.1, x.2.1.2.1)).bind fun r1 =>
      bif (decide (r1 ≤ 0)) then
        F (((bits .or .u64 x.1.1 (IntKind.wrap .u64 (1 * 2 ^ (min (x.1.2.1).toNat 64)))), ((IntKind.wrap .i64 (x.1.2.1 - 1)), ())), ((x.2.1.1, (x.2.1.2.1, ())), ()))
      else F ((x.1.1, ((IntKind.wrap .i64 (x.1.2.1 - 1)), ())), ((x.2.1.1, (x.2.1.2.1, ())), ()))
    else none
  else some ((x.1.1, ()), ())
def wide_Root (N : Nat) (a0 : (Int × Int)) : Option Int :=
  (iter (wide_Root_L3 N) N ((0, (63, ())), ((a0.1, (a0.2, ())), ()))).bind fun r0 =>
  some r0.1.1
def leatlaw02_WideDivs (N : Nat) (a0 : (Int × Int)) (a1 : Int) : Option Bool :=
  (wide_Div N a0 a1).bind fun r0 =>
  (wide_Root N a0).bind fun r1 =>
  (leatref02_Bits N r1 64).bind fun r2 =>
  (leatref02_Add N r2 ([1] : List Int)).bind fun r3 =>
  (leatref02_Bits N r1 64).bind fun r4 =>
  (leatref02_Bits N r1 64).bind fun r5 =>
  (leatref02_Mul N r4 r5).bind fun r6 =>
  (leatlaw02_bits N a0).bind fun r7 =>
  (leatref02_Cmp N r6 r7).bind fun r8 =>
  bif ((decide ((0 : Int) < r8)) == false) then
    (leatref02_Mul N r3 r3).bind fun r9 =>
    (leatlaw02_bits N a0).bind fun r10 =>
    (leatref02_Cmp N r9 r10).bind fun r11 =>
    bif (decide (r11 ≤ 0)) then
      some false
    else bif (a1 == 0) then
      bif (((r0.1.1 == 0) && ((r0.1.2 == 0) && true)) == true) then
        bif ((r0.2 == 0) == true) then
          (leatlaw02_works N).bind fun r12 =>
          some r12
        else some false
      else some false
    else (leatlaw02_bits N a0).bind fun r13 =>
    (leatref02_Bits N a1 64).bind fun r14 =>
    (leatref02_Div N r13 r14).bind fun r15 =>
    (leatlaw02_bits N r0.1).bind fun r16 =>
    (leatref02_Cmp N r16 r15.1).bind fun r17 =>
    bif ((r17 == 0) == true) then
      (leatref02_Num N r15.2 0).bind fun r18 =>
      bif ((r18 == r0.2) == true) then
        (leatlaw02_works N).bind fun r19 =>
        some r19
      else some false
    else some false
  else some false
def fixed_Ratio (N : Nat) (a0 : Int) (a1 : Int) : Option Int :=
  bif (decide (a0 ≤ 0)) then
    some 0
  else bif ((decide (a1 ≤ 0)) == false) then
    bif (decide (a1 ≤ a0)) then
      some 1048576
    else (wide_MulDiv N a0 1048576 a1).bind fun r0 =>
    some r0.1
  else some 1048576
def leatref04_quo (N : Nat) (a0 : Int) (a1 : Int) (a2 : Int) : Option Int :=
  bif ((decide (a0 < 4398046511104)) == true) then
    bif (decide (a1 ≤ 1048576)) then
      bif (!(decide (a2 = 0))) then
        some (IntKind.wrap .i64 (Int.tdiv (IntKind.wrap .i64 (a0 * a1)) a2))
      else none
    else (leatref02_MulDiv N a0 a1 a2 false).bind fun r0 =>
    some r0.1
  else (leatref02_MulDiv N a0 a1 a2 false).bind fun r1 =>
  some r1.1
def leatref04_Ratio (N : Nat) (a0 : Int) (a1 : Int) : Option Int :=
  bif (decide (a0 ≤ 0)) then
    some 0
  else bif ((decide (a1 ≤ 0)) == false) then
    bif (decide (a1 ≤ a0)) then
      some 1048576
    else (leatref04_quo N a0 1048576 a1).bind fun r0 =>
    some r0
  else some 1048576
def sat_Clamp (_N : Nat) (a0 : Int) (a1 : Int) (a2 : Int) : Option Int :=
  some (if (if a2 < a0 then a2 else a0) > a1 then (if a2 < a0 then a2 else a0) else a1)
def fixed_share (N : Nat) (a0 : Int) : Option Int :=
  (sat_Clamp N a0 0 1048576).bind fun r0 =>
  some r0
def sat_Div (_N : Nat) (a0 : Int) (a1 : Int) : Option Int :=
  bif (a1 == 0) then
    some 0
  else bif ((a0 == (-9223372036854775808)) == true) then
    bif (a1 == (-1)) then
      some 9223372036854775807
    else bif (!(decide (a1 = 0))) then
      bif (!(decide (a1 = 0))) then
        bif ((!((Int.tmod a0 a1) == 0)) == true) then
          bif (!((decide (a0 < 0)) == (decide (a1 < 0)))) then
            some (IntKind.wrap .i64 ((IntKind.wrap .i64 (Int.tdiv a0 a1)) - 1))
          else some (IntKind.wrap .i64 (Int.tdiv a0 a1))
        else some (IntKind.wrap .i64 (Int.tdiv a0 a1))
      else none
    else none
  else bif (!(decide (a1 = 0))) then
    bif (!(decide (a1 = 0))) then
      bif ((!((Int.tmod a0 a1) == 0)) == true) then
        bif (!((decide (a0 < 0)) == (decide (a1 < 0)))) then
          some (IntKind.wrap .i64 ((IntKind.wrap .i64 (Int.tdiv a0 a1)) - 1))
        else some (IntKind.wrap .i64 (Int.tdiv a0 a1))
      else some (IntKind.wrap .i64 (Int.tdiv a0 a1))
    else none
  else none
def sat_Mod (_N : Nat) (a0 : Int) (a1 : Int) : Option Int :=
  bif (decide (a1 ≤ 0)) then
    some 0
  else bif (!(decide (a1 = 0))) then
    bif (decide ((Int.tmod a0 a1) < 0)) then
      some (IntKind.wrap .i64 ((Int.tmod a0 a1) + a1))
    else bif (!(decide (a1 = 0))) then
      some (Int.tmod a0 a1)
    else none
  else none
def fixed_Part (N : Nat) (a0 : Int) (a1 : Int) : Option Int :=
  (fixed_share N a1).bind fun r0 =>
  (sat_Div N a0 1048576).bind fun r1 =>
  (sat_Mod N a0 1048576).bind fun r2 =>
  some (IntKind.wrap .i64 ((IntKind.wrap .i64 (r1 * r0)) + (IntKind.wrap .i64 (Int.tdiv (IntKind.wrap .i64 (r2 * r0)) 1048576))))
def leatref04_Share (_N : Nat) (a0 : Int) : Option Int :=
  some (if 1048576 < (if 0 > a0 then 0 else a0) then 1048576 else (if 0 > a0 then 0 else a0))
def leatref04_Part (N : Nat) (a0 : Int) (a1 : Int) : Option Int :=
  (leatref04_Share N a1).bind fun r0 =>
  bif (decide ((0 : Int) ≤ a0)) then
    (leatref04_quo N a0 r0 1048576).bind fun r1 =>
    some r1
  else bif (a0 == (-9223372036854775808)) then
    some (IntKind.wrap .i64 (0 - (IntKind.wrap .i64 (8796093022208 * r0))))
  else (leatref02_MulDiv N (IntKind.wrap .i64 (0 - a0)) r0 1048576 true).bind fun r2 =>
  some (IntKind.wrap .i64 (0 - r2.1))
def sat_end (_N : Nat) (a0 : Bool) : Option Int :=
  bif a0 then
    some (-9223372036854775808)
  else some 9223372036854775807
def sat_Sub (N : Nat) (a0 : Int) (a1 : Int) : Option Int :=
  bif (decide ((bits .and .i64 (bits .xor .i64 a0 a1) (bits .xor .i64 a0 (IntKind.wrap .i64 (a0 - a1)))) < 0)) then
    (sat_end N (decide (a0 < 0))).bind fun r0 =>
    some r0
  else some (IntKind.wrap .i64 (a0 - a1))
def sat_Add (N : Nat) (a0 : Int) (a1 : Int) : Option Int :=
  bif (decide ((bits .and .i64 (bits .xor .i64 a0 (IntKind.wrap .i64 (a0 + a1))) (bits .xor .i64 a1 (IntKind.wrap .i64 (a0 + a1)))) < 0)) then
    (sat_end N (decide (a0 < 0))).bind fun r0 =>
    some r0
  else some (IntKind.wrap .i64 (a0 + a1))
def fixed_Toward (N : Nat) (a0 : Int) (a1 : Int) (a2 : Int) : Option Int :=
  (sat_Sub N a1 a0).bind fun r0 =>
  bif (!(decide ((if (if 62 < a2 then 62 else a2) > 0 then (if 62 < a2 then 62 else a2) else 0) < 0))) then
    (sat_Add N a0 (Int.fdiv r0 (2 ^ (min ((if (if 62 < a2 then 62 else a2) > 0 then (if 62 < a2 then 62 else a2) else 0)).toNat 64)))).bind fun r1 =>
    some r1
  else none
def leatlaw04_works (N : Nat) : Option Bool :=
  (fixed_Ratio N 1 4).bind fun r0 =>
  bif ((r0 == 262144) == true) then
    (fixed_Part N 10 524288).bind fun r1 =>
    bif ((r1 == 5) == true) then
      (fixed_Toward N 0 16 4).bind fun r2 =>
      some (r2 == 1)
    else some false
  else some false
def leatlaw04_FixedShares (N : Nat) (a0 : Int) (a1 : Int) (a2 : Int) : Option Bool :=
  (fixed_Ratio N a0 a1).bind fun r0 =>
  (leatref04_Ratio N a0 a1).bind fun r1 =>
  bif ((r0 == r1) == true) then
    (fixed_Part N a0 a2).bind fun r2 =>
    (leatref04_Part N a0 a2).bind fun r3 =>
    bif ((r2 == r3) == true) then
      (leatlaw04_works N).bind fun r4 =>
      some r4
    else some false
  else some false
def leatlaw04_FixedBetween (N : Nat) (a0 : Int) (a1 : (Int × Int)) (a2 : Int) : Option Bool :=
  (fixed_Part N a0 (if a1.2 < a1.1 then a1.2 else a1.1)).bind fun r0 =>
  (fixed_Part N a0 (if a1.2 > a1.1 then a1.2 else a1.1)).bind fun r1 =>
  bif ((decide ((0 : Int) ≤ a0)) == true) then
    bif ((decide (r0 < 0)) == false) then
      bif ((decide (r1 < r0)) == false) then
        bif (decide (a0 < r1)) then
          some false
        else (fixed_Toward N a0 a1.1 a2).bind fun r2 =>
        bif ((decide ((if a1.1 < a0 then a1.1 else a0) ≤ r2)) == true) then
          bif ((decide (r2 ≤ (if a1.1 > a0 then a1.1 else a0))) == true) then
            (leatlaw04_works N).bind fun r3 =>
            some r3
          else some false
        else some false
      else some false
    else some false
  else (fixed_Toward N a0 a1.1 a2).bind fun r4 =>
  bif ((decide ((if a1.1 < a0 then a1.1 else a0) ≤ r4)) == true) then
    bif ((decide (r4 ≤ (if a1.1 > a0 then a1.1 else a0))) == true) then
      (leatlaw04_works N).bind fun r5 =>
      some r5
    else some false
  else some false
def leatref01_Add (_N : Nat) (a0 : Int) (a1 : Int) : Option Int :=
  bif ((decide ((0 : Int) < a1)) == true) then
    bif (decide ((IntKind.wrap .i64 (9223372036854775807 - a1)) < a0)) then
      some 9223372036854775807
    else bif ((decide (a1 < 0)) == true) then
      bif (decide (a0 < (IntKind.wrap .i64 ((-9223372036854775808) - a1)))) then
        some (-9223372036854775808)
      else some (IntKind.wrap .i64 (a0 + a1))
    else some (IntKind.wrap .i64 (a0 + a1))
  else bif ((decide (a1 < 0)) == true) then
    bif (decide (a0 < (IntKind.wrap .i64 ((-9223372036854775808) - a1)))) then
      some (-9223372036854775808)
    else some (IntKind.wrap .i64 (a0 + a1))
  else some (IntKind.wrap .i64 (a0 + a1))
def leatref01_Sub (N : Nat) (a0 : Int) (a1 : Int) : Option Int :=
  bif (a1 == (-9223372036854775808)) then
    bif (decide ((0 : Int) ≤ a0)) then
      some 9223372036854775807
    else some (IntKind.wrap .i64 (a0 - a1))
  else (leatref01_Add N a0 (IntKind.wrap .i64 (0 - a1))).bind fun r0 =>
  some r0
def leatref01_Neg (_N : Nat) (a0 : Int) : Option Int :=
  bif (a0 == (-9223372036854775808)) then
    some 9223372036854775807
  else some (IntKind.wrap .i64 (0 - a0))
def leatref01_Div (N : Nat) (a0 : Int) (a1 : Int) : Option Int :=
  bif (a1 == 0) then
    some 0
  else bif (a1 == (-1)) then
    (leatref01_Neg N a0).bind fun r0 =>
    some r0
  else bif (!(decide (a1 = 0))) then
    bif ((!((IntKind.wrap .i64 (a0 - (IntKind.wrap .i64 ((IntKind.wrap .i64 (Int.tdiv a0 a1)) * a1)))) == 0)) == true) then
      bif (!((decide ((IntKind.wrap .i64 (a0 - (IntKind.wrap .i64 ((IntKind.wrap .i64 (Int.tdiv a0 a1)) * a1)))) < 0)) == (decide (a1 < 0)))) then
        some (IntKind.wrap .i64 ((IntKind.wrap .i64 (Int.tdiv a0 a1)) - 1))
      else some (IntKind.wrap .i64 (Int.tdiv a0 a1))
    else some (IntKind.wrap .i64 (Int.tdiv a0 a1))
  else none
def leatref04_Toward_L3 (_N : Nat) (F : ((Int × (Int × (Int × (Int × (Int × Unit))))) × Unit) → Option ((Int × (Int × (Int × Unit))) × Unit)) (x : ((Int × (Int × (Int × (Int × (Int × Unit))))) × Unit)) : Option ((Int × (Int × (Int × Unit))) × Unit) :=
  bif (decide (x.1.2.2.2.2.1 < (if 62 < (if 0 > x.1.2.2.1 then 0 else x.1.2.2.1) then 62 else (if 0 > x.1.2.2.1 then 0 else x.1.2.2.1)))) then
    F ((x.1.1, (x.1.2.1, (x.1.2.2.1, ((IntKind.wrap .i64 (x.1.2.2.2.1 * 2)), ((IntKind.wrap .i64 (x.1.2.2.2.2.1 + 1)), ()))))), ())
  else some ((x.1.1, (x.1.2.1, (x.1.2.2.2.1, ()))), ())
def leatref04_Toward (N : Nat) (a0 : Int) (a1 : Int) (a2 : Int) : Option Int :=
  (iter (leatref04_Toward_L3 N) N ((a0, (a1, (a2, (1, (0, ()))))), ())).bind fun r0 =>
  (leatref01_Sub N r0.1.2.1 r0.1.1).bind fun r1 =>
  (leatref01_Div N r1 r0.1.2.2.1).bind fun r2 =>
  (leatref01_Add N r0.1.1 r2).bind fun r3 =>
  some r3
def fixed_Halve_L2 (_N : Nat) (F : ((Int × (Int × (Int × Unit))) × Unit) → Option ((Int × Unit) × Unit)) (x : ((Int × (Int × (Int × Unit))) × Unit)) : Option ((Int × Unit) × Unit) :=
  bif (decide (x.1.2.2.1 < x.1.2.1)) then
    F (((Int.fdiv x.1.1 2), (x.1.2.1, ((IntKind.wrap .i64 (x.1.2.2.1 + 1)), ()))), ())
  else some ((x.1.1, ()), ())
def fixed_Halve (N : Nat) (a0 : Int) (a1 : Int) : Option Int :=
  (iter (fixed_Halve_L2 N) N ((a0, ((if 64 < (if 0 > a1 then 0 else a1) then 64 else (if 0 > a1 then 0 else a1)), (0, ()))), ())).bind fun r0 =>
  some r0.1.1
def leatref04_Halve_L2 (N : Nat) (F : ((Int × (Int × (Int × Unit))) × Unit) → Option ((Int × Unit) × Unit)) (x : ((Int × (Int × (Int × Unit))) × Unit)) : Option ((Int × Unit) × Unit) :=
  bif ((decide (x.1.2.2.1 < x.1.2.1)) == true) then
    bif (decide (x.1.2.2.1 < 70)) then
      (leatref01_Div N x.1.1 2).bind fun r0 =>
      F ((r0, (x.1.2.1, ((IntKind.wrap .i64 (x.1.2.2.1 + 1)), ()))), ())
    else some ((x.1.1, ()), ())
  else some ((x.1.1, ()), ())
def leatref04_Halve (N : Nat) (a0 : Int) (a1 : Int) : Option Int :=
  (iter (leatref04_Halve_L2 N) N ((a0, (a1, (0, ()))), ())).bind fun r0 =>
  some r0.1.1
def leatlaw04_FixedSteps (N : Nat) (a0 : Int) (a1 : Int) (a2 : Int) : Option Bool :=
  (fixed_Toward N a0 a1 a2).bind fun r0 =>
  (leatref04_Toward N a0 a1 a2).bind fun r1 =>
  bif ((r0 == r1) == true) then
    (fixed_Halve N a0 a2).bind fun r2 =>
    (leatref04_Halve N a0 a2).bind fun r3 =>
    bif ((r2 == r3) == true) then
      (leatlaw04_works N).bind fun r4 =>
      some r4
    else some false
  else some false
def fixed_Mul (N : Nat) (a0 : Int) (a1 : Int) : Option Int :=
  (fixed_share N a0).bind fun r0 =>
  (fixed_Part N r0 a1).bind fun r1 =>
  some r1
def fixed_Root (N : Nat) (a0 : Int) : Option Int :=
  (fixed_share N a0).bind fun r0 =>
  (wide_Root N (0, (IntKind.wrap .u64 ((IntKind.wrap .u64 r0) * 1048576)))).bind fun r1 =>
  some (IntKind.wrap .i64 r1)
def leatref04_Root_L3 (_N : Nat) (F : ((Int × (Int × (Int × Unit))) × Unit) → Option ((Int × Unit) × Unit)) (x : ((Int × (Int × (Int × Unit))) × Unit)) : Option ((Int × Unit) × Unit) :=
  bif (decide (x.1.2.1 < x.1.2.2.1)) then
    bif (decide ((IntKind.wrap .i64 ((IntKind.wrap .i64 (Int.tdiv (IntKind.wrap .i64 ((IntKind.wrap .i64 (x.1.2.1 + x.1.2.2.1)) + 1)) 2)) * (IntKind.wrap .i64 (Int.tdiv (IntKind.wrap .i64 ((IntKind.wrap .i64 (x.1.2.1 + x.1.2.2.1)) + 1)) 2)))) ≤ (IntKind.wrap .i64 (x.1.1 * 1048576)))) then
      F ((x.1.1, ((IntKind.wrap .i64 (Int.tdiv (IntKind.wrap .i64 ((IntKind.wrap .i64 (x.1.2.1 + x.1.2.2.1)) + 1)) 2)), (x.1.2.2.1, ()))), ())
    else F ((x.1.1, (x.1.2.1, ((IntKind.wrap .i64 ((IntKind.wrap .i64 (Int.tdiv (IntKind.wrap .i64 ((IntKind.wrap .i64 (x.1.2.1 + x.1.2.2.1)) + 1)) 2)) - 1)), ()))), ())
  else some ((x.1.2.1, ()), ())
def leatref04_Root (N : Nat) (a0 : Int) : Option Int :=
  (leatref04_Share N a0).bind fun r0 =>
  (iter (leatref04_Root_L3 N) N ((r0, (0, (1048576, ()))), ())).bind fun r1 =>
  some r1.1.1
def leatlaw04_FixedMuls (N : Nat) (a0 : Int) (a1 : Int) : Option Bool :=
  (fixed_Mul N a0 a1).bind fun r0 =>
  (leatref04_Share N a0).bind fun r1 =>
  (leatref04_Part N r1 a1).bind fun r2 =>
  bif ((r0 == r2) == true) then
    (fixed_Root N a0).bind fun r3 =>
    (leatref04_Root N a0).bind fun r4 =>
    bif ((r3 == r4) == true) then
      (leatlaw04_works N).bind fun r5 =>
      some r5
    else some false
  else some false
end Go.Proofs.Ytfoickedejcffaa.W
