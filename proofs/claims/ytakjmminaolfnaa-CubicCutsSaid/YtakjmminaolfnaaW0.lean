/- The functions of the seat, as the evaluator tells them: the texts alone. Printed by genW.py. -/
import Derived.Test.YtakjmminaolfnaaEvQ
namespace Go.Proofs.Ytakjmminaolfnaa.W
open Go.Ev Go.RowKit
def leatref49_keep (_N : Nat) (a0 : Int) (a1 : Int) (a2 : Int) : Option Int :=
  some (if a2 < (if a1 > a0 then a1 else a0) then a2 else (if a1 > a0 then a1 else a0))
def leatref49_Size (N : Nat) (a0 : Int) : Option Int :=
  (leatref49_keep N a0 1 65536).bind fun r0 =>
  some r0
def sat_Clamp (_N : Nat) (a0 : Int) (a1 : Int) (a2 : Int) : Option Int :=
  some (if (if a2 < a0 then a2 else a0) > a1 then (if a2 < a0 then a2 else a0) else a1)
def cubic_size (N : Nat) (a0 : Int) : Option Int :=
  (sat_Clamp N a0 1 65536).bind fun r0 =>
  some r0
def cubic_within (N : Nat) (a0 : (Int × (Int × (Int × (Int × (Int × Int)))))) (a1 : Int) : Option (Int × (Int × (Int × (Int × (Int × Int))))) :=
  (cubic_size N a1).bind fun r0 =>
  (sat_Clamp N a0.1 r0 1073741824).bind fun r1 =>
  (sat_Clamp N a0.2.1 0 1073741824).bind fun r2 =>
  (sat_Clamp N a0.2.2.1 0 1073741824).bind fun r3 =>
  (sat_Clamp N a0.2.2.2.1 (-1) 1125899906842624).bind fun r4 =>
  (sat_Clamp N a0.2.2.2.2.1 0 1073741824).bind fun r5 =>
  (sat_Clamp N a0.2.2.2.2.2 0 1073741824).bind fun r6 =>
  some (r1, (r2, (r3, (r4, (r5, r6)))))
def cubic_Cut (N : Nat) (a0 : (Int × (Int × (Int × (Int × (Int × Int)))))) (a1 : Int) : Option (Int × (Int × (Int × (Int × (Int × Int))))) :=
  (cubic_within N a0 a1).bind fun r0 =>
  (cubic_size N a1).bind fun r1 =>
  bif (decide (r0.1 < r0.2.2.1)) then
    some ((if (if r0.1 < (IntKind.wrap .i64 (2 * r1)) then r0.1 else (IntKind.wrap .i64 (2 * r1))) > (IntKind.wrap .i64 (Int.tdiv (IntKind.wrap .i64 (r0.1 * 7)) 10)) then (if r0.1 < (IntKind.wrap .i64 (2 * r1)) then r0.1 else (IntKind.wrap .i64 (2 * r1))) else (IntKind.wrap .i64 (Int.tdiv (IntKind.wrap .i64 (r0.1 * 7)) 10))), ((if (if r0.1 < (IntKind.wrap .i64 (2 * r1)) then r0.1 else (IntKind.wrap .i64 (2 * r1))) > (IntKind.wrap .i64 (Int.tdiv (IntKind.wrap .i64 (r0.1 * 7)) 10)) then (if r0.1 < (IntKind.wrap .i64 (2 * r1)) then r0.1 else (IntKind.wrap .i64 (2 * r1))) else (IntKind.wrap .i64 (Int.tdiv (IntKind.wrap .i64 (r0.1 * 7)) 10))), ((IntKind.wrap .i64 (Int.tdiv (IntKind.wrap .i64 (r0.1 * 17)) 20)), ((-1), (0, 0)))))
  else some ((if (if r0.1 < (IntKind.wrap .i64 (2 * r1)) then r0.1 else (IntKind.wrap .i64 (2 * r1))) > (IntKind.wrap .i64 (Int.tdiv (IntKind.wrap .i64 (r0.1 * 7)) 10)) then (if r0.1 < (IntKind.wrap .i64 (2 * r1)) then r0.1 else (IntKind.wrap .i64 (2 * r1))) else (IntKind.wrap .i64 (Int.tdiv (IntKind.wrap .i64 (r0.1 * 7)) 10))), ((if (if r0.1 < (IntKind.wrap .i64 (2 * r1)) then r0.1 else (IntKind.wrap .i64 (2 * r1))) > (IntKind.wrap .i64 (Int.tdiv (IntKind.wrap .i64 (r0.1 * 7)) 10)) then (if r0.1 < (IntKind.wrap .i64 (2 * r1)) then r0.1 else (IntKind.wrap .i64 (2 * r1))) else (IntKind.wrap .i64 (Int.tdiv (IntKind.wrap .i64 (r0.1 * 7)) 10))), (r0.1, ((-1), (0, 0)))))
def leatref49_Within (N : Nat) (a0 : (Int × (Int × (Int × (Int × (Int × Int)))))) (a1 : Int) : Option (Int × (Int × (Int × (Int × (Int × Int))))) :=
  (leatref49_Size N a1).bind fun r0 =>
  (leatref49_keep N a0.1 r0 1073741824).bind fun r1 =>
  (leatref49_keep N a0.2.1 0 1073741824).bind fun r2 =>
  (leatref49_keep N a0.2.2.1 0 1073741824).bind fun r3 =>
  (leatref49_keep N a0.2.2.2.1 (-1) 1125899906842624).bind fun r4 =>
  (leatref49_keep N a0.2.2.2.2.1 0 1073741824).bind fun r5 =>
  (leatref49_keep N a0.2.2.2.2.2 0 1073741824).bind fun r6 =>
  some (r1, (r2, (r3, (r4, (r5, r6)))))
def leatref49_Cut (N : Nat) (a0 : (Int × (Int × (Int × (Int × (Int × Int)))))) (a1 : Int) : Option (Int × (Int × (Int × (Int × (Int × Int))))) :=
  (leatref49_Within N a0 a1).bind fun r0 =>
  bif (decide (r0.1 < r0.2.2.1)) then
    (leatref49_Size N a1).bind fun r1 =>
    bif (decide ((IntKind.wrap .i64 (Int.tdiv (IntKind.wrap .i64 (7 * r0.1)) 10)) < (IntKind.wrap .i64 (2 * r1)))) then
      (leatref49_Size N a1).bind fun r2 =>
      some ((if r0.1 < (IntKind.wrap .i64 (2 * r2)) then r0.1 else (IntKind.wrap .i64 (2 * r2))), ((if r0.1 < (IntKind.wrap .i64 (2 * r2)) then r0.1 else (IntKind.wrap .i64 (2 * r2))), ((IntKind.wrap .i64 (Int.tdiv (IntKind.wrap .i64 (17 * r0.1)) 20)), ((-1), (0, 0)))))
    else some ((IntKind.wrap .i64 (Int.tdiv (IntKind.wrap .i64 (7 * r0.1)) 10)), ((IntKind.wrap .i64 (Int.tdiv (IntKind.wrap .i64 (7 * r0.1)) 10)), ((IntKind.wrap .i64 (Int.tdiv (IntKind.wrap .i64 (17 * r0.1)) 20)), ((-1), (0, 0)))))
  else (leatref49_Size N a1).bind fun r3 =>
  bif (decide ((IntKind.wrap .i64 (Int.tdiv (IntKind.wrap .i64 (7 * r0.1)) 10)) < (IntKind.wrap .i64 (2 * r3)))) then
    (leatref49_Size N a1).bind fun r4 =>
    some ((if r0.1 < (IntKind.wrap .i64 (2 * r4)) then r0.1 else (IntKind.wrap .i64 (2 * r4))), ((if r0.1 < (IntKind.wrap .i64 (2 * r4)) then r0.1 else (IntKind.wrap .i64 (2 * r4))), (r0.1, ((-1), (0, 0)))))
  else some ((IntKind.wrap .i64 (Int.tdiv (IntKind.wrap .i64 (7 * r0.1)) 10)), ((IntKind.wrap .i64 (Int.tdiv (IntKind.wrap .i64 (7 * r0.1)) 10)), (r0.1, ((-1), (0, 0)))))
def cubic_Start (N : Nat) (a0 : Int) (a1 : Int) : Option (Int × (Int × (Int × (Int × (Int × Int))))) :=
  (cubic_size N a0).bind fun r0 =>
  (sat_Clamp N a1 1 1000).bind fun r1 =>
  some ((IntKind.wrap .i64 (r0 * r1)), (1073741824, (0, ((-1), (0, 0)))))
def cubic_Root_L3 (_N : Nat) (F : ((Int × (Int × (Int × Unit))) × Unit) → Option ((Int × Unit) × Unit)) (x : ((Int × (Int × (Int × Unit))) × Unit)) : Option ((Int × Unit) × Unit) :=
  bif (decide ((0 : Int) ≤ x.1.2.2.1)) then
    bif (!(decide (x.1.2.2.1 < 0))) then
      bif (!(decide ((bits .or .i64 x.1.2.1 (IntKind.wrap .i64 (1 * 2 ^ (min (x.1.2.2.1).toNat 64)))) = 0))) then
        bif (decide ((IntKind.wrap .i64 ((bits .or .i64 x.1.2.1 (IntKind.wrap .i64 (1 * 2 ^ (min (x.1.2.2.1).toNat 64)))) * (bits .or .i64 x.1.2.1 (IntKind.wrap .i64 (1 * 2 ^ (min (x.1.2.2.1).toNat 64)))))) ≤ (IntKind.wrap .i64 (Int.tdiv x.1.1 (bits .or .i64 x.1.2.1 (IntKind.wrap .i64 (1 * 2 ^ (min (x.1.2.2.1).toNat 64)))))))) then
          F ((x.1.1, ((bits .or .i64 x.1.2.1 (IntKind.wrap .i64 (1 * 2 ^ (min (x.1.2.2.1).toNat 64)))), ((IntKind.wrap .i64 (x.1.2.2.1 - 1)), ()))), ())
        else F ((x.1.1, (x.1.2.1, ((IntKind.wrap .i64 (x.1.2.2.1 - 1)), ()))), ())
      else none
    else none
  else some ((x.1.2.1, ()), ())
def cubic_Root (N : Nat) (a0 : Int) : Option Int :=
  (iter (cubic_Root_L3 N) N ((a0, (0, (20, ()))), ())).bind fun r0 =>
  some r0.1.1
def leatlaw49_works (N : Nat) : Option Bool :=
  (cubic_Root N 26).bind fun r0 =>
  bif ((r0 == 2) == true) then
    (cubic_Cut N (10000, (0, (0, (0, (0, 0))))) 1000).bind fun r1 =>
    some (r1.1 == 7000)
  else some false
def leatlaw49_CubicCuts (N : Nat) (a0 : (Int × (Int × (Int × (Int × (Int × Int)))))) (a1 : Int) (a2 : Int) : Option Bool :=
  (leatref49_Size N a1).bind fun r0 =>
  (cubic_Cut N a0 a1).bind fun r1 =>
  (leatref49_Cut N a0 a1).bind fun r2 =>
  bif (((r1.1 == r2.1) && ((r1.2.1 == r2.2.1) && ((r1.2.2.1 == r2.2.2.1) && ((r1.2.2.2.1 == r2.2.2.2.1) && ((r1.2.2.2.2.1 == r2.2.2.2.2.1) && ((r1.2.2.2.2.2 == r2.2.2.2.2.2) && true)))))) == true) then
    (cubic_Start N a1 a2).bind fun r3 =>
    bif (((r3.1 == (IntKind.wrap .i64 (r0 * (if 1000 < (if 1 > a2 then 1 else a2) then 1000 else (if 1 > a2 then 1 else a2))))) && ((r3.2.1 == 1073741824) && ((r3.2.2.1 == 0) && ((r3.2.2.2.1 == (-1)) && ((r3.2.2.2.2.1 == 0) && ((r3.2.2.2.2.2 == 0) && true)))))) == true) then
      (leatlaw49_works N).bind fun r4 =>
      some r4
    else some false
  else some false
def leatref49_Root_L2 (_N : Nat) (F : ((Int × (Int × (Int × Unit))) × Unit) → Option ((Int × Unit) × Unit)) (x : ((Int × (Int × (Int × Unit))) × Unit)) : Option ((Int × Unit) × Unit) :=
  bif (decide (x.1.2.1 < x.1.2.2.1)) then
    bif (decide ((IntKind.wrap .i64 ((IntKind.wrap .i64 ((IntKind.wrap .i64 (Int.tdiv (IntKind.wrap .i64 ((IntKind.wrap .i64 (x.1.2.1 + x.1.2.2.1)) + 1)) 2)) * (IntKind.wrap .i64 (Int.tdiv (IntKind.wrap .i64 ((IntKind.wrap .i64 (x.1.2.1 + x.1.2.2.1)) + 1)) 2)))) * (IntKind.wrap .i64 (Int.tdiv (IntKind.wrap .i64 ((IntKind.wrap .i64 (x.1.2.1 + x.1.2.2.1)) + 1)) 2)))) ≤ x.1.1)) then
      F ((x.1.1, ((IntKind.wrap .i64 (Int.tdiv (IntKind.wrap .i64 ((IntKind.wrap .i64 (x.1.2.1 + x.1.2.2.1)) + 1)) 2)), (x.1.2.2.1, ()))), ())
    else F ((x.1.1, (x.1.2.1, ((IntKind.wrap .i64 ((IntKind.wrap .i64 (Int.tdiv (IntKind.wrap .i64 ((IntKind.wrap .i64 (x.1.2.1 + x.1.2.2.1)) + 1)) 2)) - 1)), ()))), ())
  else some ((x.1.2.1, ()), ())
def leatref49_Root (N : Nat) (a0 : Int) : Option Int :=
  (iter (leatref49_Root_L2 N) N ((a0, (0, (2097151, ()))), ())).bind fun r0 =>
  some r0.1.1
def sat_end (_N : Nat) (a0 : Bool) : Option Int :=
  bif a0 then
    some (-9223372036854775808)
  else some 9223372036854775807
def sat_Sub (N : Nat) (a0 : Int) (a1 : Int) : Option Int :=
  bif (decide ((bits .and .i64 (bits .xor .i64 a0 a1) (bits .xor .i64 a0 (IntKind.wrap .i64 (a0 - a1)))) < 0)) then
    (sat_end N (decide (a0 < 0))).bind fun r0 =>
    some r0
  else some (IntKind.wrap .i64 (a0 - a1))
def sat_size (_N : Nat) (a0 : Int) : Option Int :=
  bif (decide (a0 < 0)) then
    some (IntKind.wrap .u64 (0 - (IntKind.wrap .u64 a0)))
  else some (IntKind.wrap .u64 a0)
def bits_Mul64 (_N : Nat) (a0 : Int) (a1 : Int) : Option (Int × Int) :=
  some ((IntKind.wrap .u64 ((IntKind.wrap .u64 ((IntKind.wrap .u64 ((Int.fdiv a0 4294967296) * (Int.fdiv a1 4294967296))) + (Int.fdiv (IntKind.wrap .u64 ((IntKind.wrap .u64 ((Int.fdiv a0 4294967296) * (bits .and .u64 a1 4294967295))) + (Int.fdiv (IntKind.wrap .u64 ((bits .and .u64 a0 4294967295) * (bits .and .u64 a1 4294967295))) 4294967296))) 4294967296))) + (Int.fdiv (IntKind.wrap .u64 ((bits .and .u64 (IntKind.wrap .u64 ((IntKind.wrap .u64 ((Int.fdiv a0 4294967296) * (bits .and .u64 a1 4294967295))) + (Int.fdiv (IntKind.wrap .u64 ((bits .and .u64 a0 4294967295) * (bits .and .u64 a1 4294967295))) 4294967296))) 4294967295) + (IntKind.wrap .u64 ((bits .and .u64 a0 4294967295) * (Int.fdiv a1 4294967296))))) 4294967296))), (IntKind.wrap .u64 (a0 * a1)))
def sat_signed (_N : Nat) (a0 : Int) (a1 : Bool) : Option Int :=
  bif (a1 == true) then
    bif (decide ((9223372036854775807 : Int) < a0)) then
      some (-9223372036854775808)
    else bif a1 then
      some (IntKind.wrap .i64 (0 - (IntKind.wrap .i64 a0)))
    else bif (decide ((9223372036854775807 : Int) < a0)) then
      some 9223372036854775807
    else some (IntKind.wrap .i64 a0)
  else bif a1 then
    some (IntKind.wrap .i64 (0 - (IntKind.wrap .i64 a0)))
  else bif (decide ((9223372036854775807 : Int) < a0)) then
    some 9223372036854775807
  else some (IntKind.wrap .i64 a0)
def sat_Mul (N : Nat) (a0 : Int) (a1 : Int) : Option Int :=
  (sat_size N a0).bind fun r0 =>
  (sat_size N a1).bind fun r1 =>
  (bits_Mul64 N r0 r1).bind fun r2 =>
  bif (decide ((0 : Int) < r2.1)) then
    (sat_end N (!((decide (a0 < 0)) == (decide (a1 < 0))))).bind fun r3 =>
    some r3
  else (sat_signed N r2.2 (!((decide (a0 < 0)) == (decide (a1 < 0))))).bind fun r4 =>
  some r4
def cubic_Wait (N : Nat) (a0 : Int) (a1 : Int) (a2 : Int) : Option Int :=
  bif (decide (a0 ≤ a1)) then
    some 0
  else (sat_Sub N a0 a1).bind fun r0 =>
  (sat_Mul N r0 2500000000).bind fun r1 =>
  (cubic_size N a2).bind fun r2 =>
  bif (!(decide (r2 = 0))) then
    (cubic_Root N (IntKind.wrap .i64 (Int.tdiv r1 r2))).bind fun r3 =>
    some r3
  else none
def leatref01_Add (_N : Nat) (a0 : Int) (a1 : Int) : Option Int :=
  bif ((decide ((0 : Int) < a1)) == true) then
    bif (decide ((IntKind.wrap .i64 (9223372036854775807 - a1)) < a0)) then
      some 9223372036854775807
    else bif ((decide (a1 < 0)) == true) then
      bif (decide (a0 < (IntKind.wrap .i64 ((-9223372036854775808) - a1)))) then
        some (-9223372036854775808)
      else some (IntKind.wrap .i64 (a0 + a1))
    else some (IntKind.wrap .i64 (a0 + a1))
  else bif ((decide (a1 < 0)) == true) then
    bif (decide (a0 < (IntKind.wrap .i64 ((-9223372036854775808) - a1)))) then
      some (-9223372036854775808)
    else some (IntKind.wrap .i64 (a0 + a1))
  else some (IntKind.wrap .i64 (a0 + a1))
def leatref01_Sub (N : Nat) (a0 : Int) (a1 : Int) : Option Int :=
  bif (a1 == (-9223372036854775808)) then
    bif (decide ((0 : Int) ≤ a0)) then
      some 9223372036854775807
    else some (IntKind.wrap .i64 (a0 - a1))
  else (leatref01_Add N a0 (IntKind.wrap .i64 (0 - a1))).bind fun r0 =>
  some r0
def leatref01_Neg (_N : Nat) (a0 : Int) : Option Int :=
  bif (a0 == (-9223372036854775808)) then
    some 9223372036854775807
  else some (IntKind.wrap .i64 (0 - a0))
def leatref01_Mul_L11 (_N : Nat) (F : ((Bool × (Int × (Int × (Int × (Bool × (Bool × Unit)))))) × Unit) → Option ((Bool × (Int × (Bool × Unit))) × Unit)) (x : ((Bool × (Int × (Int × (Int × (Bool × (Bool × Unit)))))) × Unit)) : Option ((Bool × (Int × (Bool × Unit))) × Unit) :=
  bif (decide (x.1.2.1 < 0)) then
    bif (!((Int.tmod x.1.2.1 2) == 0)) then
      bif (x.1.2.2.2.2.1 == false) then
        bif (x.1.2.2.2.2.2.1 == false) then
          bif (!(decide (x.1.2.2.1 < (IntKind.wrap .i64 ((-9223372036854775808) - x.1.2.2.2.1))))) then
            bif (x.1.2.2.2.2.2.1 == false) then
              bif (!(decide (x.1.2.2.2.1 < (-4611686018427387904)))) then
                F ((x.1.1, ((IntKind.wrap .i64 (Int.tdiv x.1.2.1 2)), ((IntKind.wrap .i64 (x.1.2.2.1 + x.1.2.2.2.1)), ((IntKind.wrap .i64 (x.1.2.2.2.1 * 2)), ((decide (x.1.2.2.1 < (IntKind.wrap .i64 ((-9223372036854775808) - x.1.2.2.2.1)))), ((decide (x.1.2.2.2.1 < (-4611686018427387904))), ())))))), ())
              else F ((x.1.1, ((IntKind.wrap .i64 (Int.tdiv x.1.2.1 2)), ((IntKind.wrap .i64 (x.1.2.2.1 + x.1.2.2.2.1)), (x.1.2.2.2.1, ((decide (x.1.2.2.1 < (IntKind.wrap .i64 ((-9223372036854775808) - x.1.2.2.2.1)))), ((decide (x.1.2.2.2.1 < (-4611686018427387904))), ())))))), ())
            else F ((x.1.1, ((IntKind.wrap .i64 (Int.tdiv x.1.2.1 2)), ((IntKind.wrap .i64 (x.1.2.2.1 + x.1.2.2.2.1)), (x.1.2.2.2.1, ((decide (x.1.2.2.1 < (IntKind.wrap .i64 ((-9223372036854775808) - x.1.2.2.2.1)))), (true, ())))))), ())
          else bif (x.1.2.2.2.2.2.1 == false) then
            bif (!(decide (x.1.2.2.2.1 < (-4611686018427387904)))) then
              F ((x.1.1, ((IntKind.wrap .i64 (Int.tdiv x.1.2.1 2)), (x.1.2.2.1, ((IntKind.wrap .i64 (x.1.2.2.2.1 * 2)), ((decide (x.1.2.2.1 < (IntKind.wrap .i64 ((-9223372036854775808) - x.1.2.2.2.1)))), ((decide (x.1.2.2.2.1 < (-4611686018427387904))), ())))))), ())
            else F ((x.1.1, ((IntKind.wrap .i64 (Int.tdiv x.1.2.1 2)), (x.1.2.2.1, (x.1.2.2.2.1, ((decide (x.1.2.2.1 < (IntKind.wrap .i64 ((-9223372036854775808) - x.1.2.2.2.1)))), ((decide (x.1.2.2.2.1 < (-4611686018427387904))), ())))))), ())
          else F ((x.1.1, ((IntKind.wrap .i64 (Int.tdiv x.1.2.1 2)), (x.1.2.2.1, (x.1.2.2.2.1, ((decide (x.1.2.2.1 < (IntKind.wrap .i64 ((-9223372036854775808) - x.1.2.2.2.1)))), (true, ())))))), ())
        else bif (x.1.2.2.2.2.2.1 == false) then
          bif (!(decide (x.1.2.2.2.1 < (-4611686018427387904)))) then
            F ((x.1.1, ((IntKind.wrap .i64 (Int.tdiv x.1.2.1 2)), (x.1.2.2.1, ((IntKind.wrap .i64 (x.1.2.2.2.1 * 2)), (true, ((decide (x.1.2.2.2.1 < (-4611686018427387904))), ())))))), ())
          else F ((x.1.1, ((IntKind.wrap .i64 (Int.tdiv x.1.2.1 2)), (x.1.2.2.1, (x.1.2.2.2.1, (true, ((decide (x.1.2.2.2.1 < (-4611686018427387904))), ())))))), ())
        else F ((x.1.1, ((IntKind.wrap .i64 (Int.tdiv x.1.2.1 2)), (x.1.2.2.1, (x.1.2.2.2.1, (true, (true, ())))))), ())
      else bif (x.1.2.2.2.2.2.1 == false) then
        bif (!(decide (x.1.2.2.2.1 < (-4611686018427387904)))) then
          F ((x.1.1, ((IntKind.wrap .i64 (Int.tdiv x.1.2.1 2)), (x.1.2.2.1, ((IntKind.wrap .i64 (x.1.2.2.2.1 * 2)), (true, ((decide (x.1.2.2.2.1 < (-4611686018427387904))), ())))))), ())
        else F ((x.1.1, ((IntKind.wrap .i64 (Int.tdiv x.1.2.1 2)), (x.1.2.2.1, (x.1.2.2.2.1, (true, ((decide (x.1.2.2.2.1 < (-4611686018427387904))), ())))))), ())
      else F ((x.1.1, ((IntKind.wrap .i64 (Int.tdiv x.1.2.1 2)), (x.1.2.2.1, (x.1.2.2.2.1, (true, (true, ())))))), ())
    else bif (x.1.2.2.2.2.2.1 == false) then
      bif (!(decide (x.1.2.2.2.1 < (-4611686018427387904)))) then
        F ((x.1.1, ((IntKind.wrap .i64 (Int.tdiv x.1.2.1 2)), (x.1.2.2.1, ((IntKind.wrap .i64 (x.1.2.2.2.1 * 2)), (x.1.2.2.2.2.1, ((decide (x.1.2.2.2.1 < (-4611686018427387904))), ())))))), ())
      else F ((x.1.1, ((IntKind.wrap .i64 (Int.tdiv x.1.2.1 2)), (x.1.2.2.1, (x.1.2.2.2.1, (x.1.2.2.2.2.1, ((decide (x.1.2.2.2.1 < (-4611686018427387904))), ())))))), ())
    else F ((x.1.1, ((IntKind.wrap .i64 (Int.tdiv x.1.2.1 2)), (x.1.2.2.1, (x.1.2.2.2.1, (x.1.2.2.2.2.1, (true, ())))))), ())
  else some ((x.1.1, (x.1.2.2.1, (x.1.2.2.2.2.1, ()))), ())
def leatref01_Mul (N : Nat) (a0 : Int) (a1 : Int) : Option Int :=
  bif ((a0 == 0) == false) then
    bif (a1 == 0) then
      some 0
    else bif (decide ((0 : Int) < a0)) then
      bif (decide ((0 : Int) < a1)) then
        (iter (leatref01_Mul_L11 N) N (((!((decide (a0 < 0)) == (decide (a1 < 0)))), ((IntKind.wrap .i64 (0 - a1)), (0, ((IntKind.wrap .i64 (0 - a0)), (false, (false, ())))))), ())).bind fun r0 =>
        bif (r0.1.2.2.1 == true) then
          bif r0.1.1 then
            some (-9223372036854775808)
          else bif r0.1.2.2.1 then
            some 9223372036854775807
          else bif r0.1.1 then
            some r0.1.2.1
          else (leatref01_Neg N r0.1.2.1).bind fun r1 =>
          some r1
        else bif r0.1.2.2.1 then
          some 9223372036854775807
        else bif r0.1.1 then
          some r0.1.2.1
        else (leatref01_Neg N r0.1.2.1).bind fun r2 =>
        some r2
      else (iter (leatref01_Mul_L11 N) N (((!((decide (a0 < 0)) == (decide (a1 < 0)))), (a1, (0, ((IntKind.wrap .i64 (0 - a0)), (false, (false, ())))))), ())).bind fun r3 =>
      bif (r3.1.2.2.1 == true) then
        bif r3.1.1 then
          some (-9223372036854775808)
        else bif r3.1.2.2.1 then
          some 9223372036854775807
        else bif r3.1.1 then
          some r3.1.2.1
        else (leatref01_Neg N r3.1.2.1).bind fun r4 =>
        some r4
      else bif r3.1.2.2.1 then
        some 9223372036854775807
      else bif r3.1.1 then
        some r3.1.2.1
      else (leatref01_Neg N r3.1.2.1).bind fun r5 =>
      some r5
    else bif (decide ((0 : Int) < a1)) then
      (iter (leatref01_Mul_L11 N) N (((!((decide (a0 < 0)) == (decide (a1 < 0)))), ((IntKind.wrap .i64 (0 - a1)), (0, (a0, (false, (false, ())))))), ())).bind fun r6 =>
      bif (r6.1.2.2.1 == true) then
        bif r6.1.1 then
          some (-9223372036854775808)
        else bif r6.1.2.2.1 then
          some 9223372036854775807
        else bif r6.1.1 then
          some r6.1.2.1
        else (leatref01_Neg N r6.1.2.1).bind fun r7 =>
        some r7
      else bif r6.1.2.2.1 then
        some 9223372036854775807
      else bif r6.1.1 then
        some r6.1.2.1
      else (leatref01_Neg N r6.1.2.1).bind fun r8 =>
      some r8
    else (iter (leatref01_Mul_L11 N) N (((!((decide (a0 < 0)) == (decide (a1 < 0)))), (a1, (0, (a0, (false, (false, ())))))), ())).bind fun r9 =>
    bif (r9.1.2.2.1 == true) then
      bif r9.1.1 then
        some (-9223372036854775808)
      else bif r9.1.2.2.1 then
        some 9223372036854775807
      else bif r9.1.1 then
        some r9.1.2.1
      else (leatref01_Neg N r9.1.2.1).bind fun r10 =>
      some r10
    else bif r9.1.2.2.1 then
      some 9223372036854775807
    else bif r9.1.1 then
      some r9.1.2.1
    else (leatref01_Neg N r9.1.2.1).bind fun r11 =>
    some r11
  else some 0
def leatref49_Wait (N : Nat) (a0 : Int) (a1 : Int) (a2 : Int) : Option Int :=
  bif (decide (a0 ≤ a1)) then
    some 0
  else (leatref01_Sub N a0 a1).bind fun r0 =>
  (leatref01_Mul N r0 2500000000).bind fun r1 =>
  (leatref49_Size N a2).bind fun r2 =>
  bif (!(decide (r2 = 0))) then
    (leatref49_Root N (IntKind.wrap .i64 (Int.tdiv r1 r2))).bind fun r3 =>
    some r3
  else none
def leatlaw49_CubicRoots (N : Nat) (a0 : Int) (a1 : (Int × Int)) (a2 : Int) : Option Bool :=
  (cubic_Root N a0).bind fun r0 =>
  (leatref49_Root N a0).bind fun r1 =>
  bif ((r0 == r1) == true) then
    (cubic_Wait N a1.1 a1.2 a2).bind fun r2 =>
    (leatref49_Wait N a1.1 a1.2 a2).bind fun r3 =>
    bif ((r2 == r3) == true) then
      (leatlaw49_works N).bind fun r4 =>
      some r4
    else some false
  else some false
def sat_Abs (N : Nat) (a0 : Int) : Option Int :=
  (sat_size N a0).bind fun r0 =>
  (sat_signed N r0 false).bind fun r1 =>
  some r1
def wide_Mul (N : Nat) (a0 : Int) (a1 : Int) : Option (Int × Int) :=
  (bits_Mul64 N a0 a1).bind fun r0 =>
  some r0
def bits_Len64_tab0 : ByteArray := bytesL [0, 1, 2, 2, 3, 3, 3, 3, 4, 4, 4, 4, 4, 4, 4, 4, 5, 5, 5, 5, 5, 5, 5, 5, 5, 5, 5, 5, 5, 5, 5, 5, 6, 6, 6, 6, 6, 6, 6, 6, 6, 6, 6, 6, 6, 6, 6, 6, 6, 6, 6, 6, 6, 6, 6, 6, 6, 6, 6, 6, 6, 6, 6, 6, 7, 7, 7, 7, 7, 7, 7, 7, 7, 7, 7, 7, 7, 7, 7, 7, 7, 7, 7, 7, 7, 7, 7, 7, 7, 7, 7, 7, 7, 7, 7, 7, 7, 7, 7, 7, 7, 7, 7, 7, 7, 7, 7, 7, 7, 7, 7, 7, 7, 7, 7, 7, 7, 7, 7, 7, 7, 7, 7, 7, 7, 7, 7, 7, 8, 8, 8, 8, 8, 8, 8, 8, 8, 8, 8, 8, 8, 8, 8, 8, 8, 8, 8, 8, 8, 8, 8, 8, 8, 8, 8, 8, 8, 8, 8, 8, 8, 8, 8, 8, 8, 8, 8, 8, 8, 8, 8, 8, 8, 8, 8, 8, 8, 8, 8, 8, 8, 8, 8, 8, 8, 8, 8, 8, 8, 8, 8, 8, 8, 8, 8, 8, 8, 8, 8, 8, 8, 8, 8, 8, 8, 8, 8, 8, 8, 8, 8, 8, 8, 8, 8, 8, 8, 8, 8, 8, 8, 8, 8, 8, 8, 8, 8, 8, 8, 8, 8, 8, 8, 8, 8, 8, 8, 8, 8, 8, 8, 8, 8, 8, 8, 8, 8, 8, 8, 8, 8, 8, 8, 8, 8, 8]
def bits_Len64 (_N : Nat) (a0 : Int) : Option Int :=
  bif (decide ((4294967296 : Int) ≤ a0)) then
    bif (decide ((65536 : Int) ≤ (Int.fdiv a0 4294967296))) then
      bif (decide ((256 : Int) ≤ (Int.fdiv (Int.fdiv a0 4294967296) 65536))) then
        bif ((decide ((0 : Int) ≤ (IntKind.wrap .u8 (Int.fdiv (Int.fdiv (Int.fdiv a0 4294967296) 65536) 256)))) && (decide ((IntKind.wrap .u8 (Int.fdiv (Int.fdiv (Int.fdiv a0 4294967296) 65536) 256)) < (((bits_Len64_tab0).size : Nat) : Int)))) then
          some (IntKind.wrap .i64 (56 + (IntKind.wrap .i64 (byteAt bits_Len64_tab0 (IntKind.wrap .u8 (Int.fdiv (Int.fdiv (Int.fdiv a0 4294967296) 65536) 256))))))
        else none
      else bif ((decide ((0 : Int) ≤ (IntKind.wrap .u8 (Int.fdiv (Int.fdiv a0 4294967296) 65536)))) && (decide ((IntKind.wrap .u8 (Int.fdiv (Int.fdiv a0 4294967296) 65536)) < (((bits_Len64_tab0).size : Nat) : Int)))) then
        some (IntKind.wrap .i64 (48 + (IntKind.wrap .i64 (byteAt bits_Len64_tab0 (IntKind.wrap .u8 (Int.fdiv (Int.fdiv a0 4294967296) 65536))))))
      else none
    else bif (decide ((256 : Int) ≤ (Int.fdiv a0 4294967296))) then
      bif ((decide ((0 : Int) ≤ (IntKind.wrap .u8 (Int.fdiv (Int.fdiv a0 4294967296) 256)))) && (decide ((IntKind.wrap .u8 (Int.fdiv (Int.fdiv a0 4294967296) 256)) < (((bits_Len64_tab0).size : Nat) : Int)))) then
        some (IntKind.wrap .i64 (40 + (IntKind.wrap .i64 (byteAt bits_Len64_tab0 (IntKind.wrap .u8 (Int.fdiv (Int.fdiv a0 4294967296) 256))))))
      else none
    else bif ((decide ((0 : Int) ≤ (IntKind.wrap .u8 (Int.fdiv a0 4294967296)))) && (decide ((IntKind.wrap .u8 (Int.fdiv a0 4294967296)) < (((bits_Len64_tab0).size : Nat) : Int)))) then
      some (IntKind.wrap .i64 (32 + (IntKind.wrap .i64 (byteAt bits_Len64_tab0 (IntKind.wrap .u8 (Int.fdiv a0 4294967296))))))
    else none
  else bif (decide ((65536 : Int) ≤ a0)) then
    bif (decide ((256 : Int) ≤ (Int.fdiv a0 65536))) then
      bif ((decide ((0 : Int) ≤ (IntKind.wrap .u8 (Int.fdiv (Int.fdiv a0 65536) 256)))) && (decide ((IntKind.wrap .u8 (Int.fdiv (Int.fdiv a0 65536) 256)) < (((bits_Len64_tab0).size : Nat) : Int)))) then
        some (IntKind.wrap .i64 (24 + (IntKind.wrap .i64 (byteAt bits_Len64_tab0 (IntKind.wrap .u8 (Int.fdiv (Int.fdiv a0 65536) 256))))))
      else none
    else bif ((decide ((0 : Int) ≤ (IntKind.wrap .u8 (Int.fdiv a0 65536)))) && (decide ((IntKind.wrap .u8 (Int.fdiv a0 65536)) < (((bits_Len64_tab0).size : Nat) : Int)))) then
      some (IntKind.wrap .i64 (16 + (IntKind.wrap .i64 (byteAt bits_Len64_tab0 (IntKind.wrap .u8 (Int.fdiv a0 65536))))))
    else none
  else bif (decide ((256 : Int) ≤ a0)) then
    bif ((decide ((0 : Int) ≤ (IntKind.wrap .u8 (Int.fdiv a0 256)))) && (decide ((IntKind.wrap .u8 (Int.fdiv a0 256)) < (((bits_Len64_tab0).size : Nat) : Int)))) then
      some (IntKind.wrap .i64 (8 + (IntKind.wrap .i64 (byteAt bits_Len64_tab0 (IntKind.wrap .u8 (Int.fdiv a0 256))))))
    else none
  else bif ((decide ((0 : Int) ≤ (IntKind.wrap .u8 a0))) && (decide ((IntKind.wrap .u8 a0) < (((bits_Len64_tab0).size : Nat) : Int)))) then
    some (IntKind.wrap .i64 (0 + (IntKind.wrap .i64 (byteAt bits_Len64_tab0 (IntKind.wrap .u8 a0)))))
  else none
def bits_LeadingZeros64 (N : Nat) (a0 : Int) : Option Int :=
  (bits_Len64 N a0).bind fun r0 =>
  some (IntKind.wrap .i64 (64 - r0))
def bits_Div64_L17 (_N : Nat) (F : ((Int × (Int × (Int × (Int × (Int × (Int × (Int × (Int × (Int × Unit))))))))) × Unit) → Option ((Int × (Int × (Int × (Int × (Int × (Int × (Int × (Int × Unit)))))))) × Unit)) (x : ((Int × (Int × (Int × (Int × (Int × (Int × (Int × (Int × (Int × Unit))))))))) × Unit)) : Option ((Int × (Int × (Int × (Int × (Int × (Int × (Int × (Int × Unit)))))))) × Unit) :=
  bif ((decide ((4294967296 : Int) ≤ x.1.2.2.2.2.2.2.2.1)) == false) then
    bif (decide ((IntKind.wrap .u64 ((IntKind.wrap .u64 (4294967296 * x.1.2.2.2.2.2.2.2.2.1)) + x.1.2.2.2.2.2.1)) < (IntKind.wrap .u64 (x.1.2.2.2.2.2.2.2.1 * x.1.2.2.2.1)))) then
      bif (decide ((4294967296 : Int) ≤ (IntKind.wrap .u64 (x.1.2.2.2.2.2.2.2.2.1 + x.1.2.2.1)))) then
        some ((x.1.1, (x.1.2.1, (x.1.2.2.1, (x.1.2.2.2.1, (x.1.2.2.2.2.1, (x.1.2.2.2.2.2.1, (x.1.2.2.2.2.2.2.1, ((IntKind.wrap .u64 (x.1.2.2.2.2.2.2.2.1 - 1)), ())))))))), ())
      else F ((x.1.1, (x.1.2.1, (x.1.2.2.1, (x.1.2.2.2.1, (x.1.2.2.2.2.1, (x.1.2.2.2.2.2.1, (x.1.2.2.2.2.2.2.1, ((IntKind.wrap .u64 (x.1.2.2.2.2.2.2.2.1 - 1)), ((IntKind.wrap .u64 (x.1.2.2.2.2.2.2.2.2.1 + x.1.2.2.1)), ()))))))))), ())
    else some ((x.1.1, (x.1.2.1, (x.1.2.2.1, (x.1.2.2.2.1, (x.1.2.2.2.2.1, (x.1.2.2.2.2.2.1, (x.1.2.2.2.2.2.2.1, (x.1.2.2.2.2.2.2.2.1, ())))))))), ())
  else bif (decide ((4294967296 : Int) ≤ (IntKind.wrap .u64 (x.1.2.2.2.2.2.2.2.2.1 + x.1.2.2.1)))) then
    some ((x.1.1, (x.1.2.1, (x.1.2.2.1, (x.1.2.2.2.1, (x.1.2.2.2.2.1, (x.1.2.2.2.2.2.1, (x.1.2.2.2.2.2.2.1, ((IntKind.wrap .u64 (x.1.2.2.2.2.2.2.2.1 - 1)), ())))))))), ())
  else F ((x.1.1, (x.1.2.1, (x.1.2.2.1, (x.1.2.2.2.1, (x.1.2.2.2.2.1, (x.1.2.2.2.2.2.1, (x.1.2.2.2.2.2.2.1, ((IntKind.wrap .u64 (x.1.2.2.2.2.2.2.2.1 - 1)), ((IntKind.wrap .u64 (x.1.2.2.2.2.2.2.2.2.1 + x.1.2.2.1)), ()))))))))), ())
def bits_Div64_L24 (_N : Nat) (F : ((Int × (Int × (Int × (Int × (Int × (Int × (Int × (Int × (Int × Unit))))))))) × Unit) → Option ((Int × (Int × (Int × (Int × (Int × (Int × Unit)))))) × Unit)) (x : ((Int × (Int × (Int × (Int × (Int × (Int × (Int × (Int × (Int × Unit))))))))) × Unit)) : Option ((Int × (Int × (Int × (Int × (Int × (Int × Unit)))))) × Unit) :=
  bif ((decide ((4294967296 : Int) ≤ x.1.2.2.2.2.2.2.2.2.1)) == false) then
    bif (decide ((IntKind.wrap .u64 ((IntKind.wrap .u64 (4294967296 * x.1.2.2.2.2.2.2.1)) + x.1.2.2.2.2.1)) < (IntKind.wrap .u64 (x.1.2.2.2.2.2.2.2.2.1 * x.1.2.2.2.1)))) then
      bif (decide ((4294967296 : Int) ≤ (IntKind.wrap .u64 (x.1.2.2.2.2.2.2.1 + x.1.2.2.1)))) then
        some ((x.1.1, (x.1.2.1, (x.1.2.2.2.2.1, (x.1.2.2.2.2.2.1, (x.1.2.2.2.2.2.2.2.1, ((IntKind.wrap .u64 (x.1.2.2.2.2.2.2.2.2.1 - 1)), ())))))), ())
      else F ((x.1.1, (x.1.2.1, (x.1.2.2.1, (x.1.2.2.2.1, (x.1.2.2.2.2.1, (x.1.2.2.2.2.2.1, ((IntKind.wrap .u64 (x.1.2.2.2.2.2.2.1 + x.1.2.2.1)), (x.1.2.2.2.2.2.2.2.1, ((IntKind.wrap .u64 (x.1.2.2.2.2.2.2.2.2.1 - 1)), ()))))))))), ())
    else some ((x.1.1, (x.1.2.1, (x.1.2.2.2.2.1, (x.1.2.2.2.2.2.1, (x.1.2.2.2.2.2.2.2.1, (x.1.2.2.2.2.2.2.2.2.1, ())))))), ())
  else bif (decide ((4294967296 : Int) ≤ (IntKind.wrap .u64 (x.1.2.2.2.2.2.2.1 + x.1.2.2.1)))) then
    some ((x.1.1, (x.1.2.1, (x.1.2.2.2.2.1, (x.1.2.2.2.2.2.1, (x.1.2.2.2.2.2.2.2.1, ((IntKind.wrap .u64 (x.1.2.2.2.2.2.2.2.2.1 - 1)), ())))))), ())
  else F ((x.1.1, (x.1.2.1, (x.1.2.2.1, (x.1.2.2.2.1, (x.1.2.2.2.2.1, (x.1.2.2.2.2.2.1, ((IntKind.wrap .u64 (x.1.2.2.2.2.2.2.1 + x.1.2.2.1)), (x.1.2.2.2.2.2.2.2.1, ((IntKind.wrap .u64 (x.1.2.2.2.2.2.2.2.2.1 - 1)), ()))))))))), ())
def bits_Div64 (N : Nat) (a0 : Int) (a1 : Int) (a2 : Int) : Option (Int × Int) :=
  bif (a2 == 0) then
    none
  else bif (decide (a2 ≤ a0)) then
    none
  else bif (a0 == 0) then
    bif (!(decide (a2 = 0))) then
      bif (!(decide (a2 = 0))) then
        some ((IntKind.wrap .u64 (Int.tdiv a1 a2)), (Int.tmod a1 a2))
      else none
    else none
  else (bits_LeadingZeros64 N a2).bind fun r0 =>
  bif (!(decide ((IntKind.wrap .u64 r0) < 0))) then
    bif (!(decide ((IntKind.wrap .u64 r0) < 0))) then
      bif (!(decide ((IntKind.wrap .u64 (64 - (IntKind.wrap .u64 r0))) < 0))) then
        bif (!(decide ((IntKind.wrap .u64 r0) < 0))) then
          bif (!(decide ((Int.fdiv (IntKind.wrap .u64 (a2 * 2 ^ (min ((IntKind.wrap .u64 r0)).toNat 64))) 4294967296) = 0))) then
            (iter (bits_Div64_L17 N) N (((IntKind.wrap .u64 (a2 * 2 ^ (min ((IntKind.wrap .u64 r0)).toNat 64))), ((IntKind.wrap .u64 r0), ((Int.fdiv (IntKind.wrap .u64 (a2 * 2 ^ (min ((IntKind.wrap .u64 r0)).toNat 64))) 4294967296), ((bits .and .u64 (IntKind.wrap .u64 (a2 * 2 ^ (min ((IntKind.wrap .u64 r0)).toNat 64))) 4294967295), ((bits .or .u64 (IntKind.wrap .u64 (a0 * 2 ^ (min ((IntKind.wrap .u64 r0)).toNat 64))) (Int.fdiv a1 (2 ^ (min ((IntKind.wrap .u64 (64 - (IntKind.wrap .u64 r0)))).toNat 64)))), ((Int.fdiv (IntKind.wrap .u64 (a1 * 2 ^ (min ((IntKind.wrap .u64 r0)).toNat 64))) 4294967296), ((bits .and .u64 (IntKind.wrap .u64 (a1 * 2 ^ (min ((IntKind.wrap .u64 r0)).toNat 64))) 4294967295), ((IntKind.wrap .u64 (Int.tdiv (bits .or .u64 (IntKind.wrap .u64 (a0 * 2 ^ (min ((IntKind.wrap .u64 r0)).toNat 64))) (Int.fdiv a1 (2 ^ (min ((IntKind.wrap .u64 (64 - (IntKind.wrap .u64 r0)))).toNat 64)))) (Int.fdiv (IntKind.wrap .u64 (a2 * 2 ^ (min ((IntKind.wrap .u64 r0)).toNat 64))) 4294967296))), ((IntKind.wrap .u64 ((bits .or .u64 (IntKind.wrap .u64 (a0 * 2 ^ (min ((IntKind.wrap .u64 r0)).toNat 64))) (Int.fdiv a1 (2 ^ (min ((IntKind.wrap .u64 (64 - (IntKind.wrap .u64 r0)))).toNat 64)))) - (IntKind.wrap .u64 ((IntKind.wrap .u64 (Int.tdiv (bits .or .u64 (IntKind.wrap .u64 (a0 * 2 ^ (min ((IntKind.wrap .u64 r0)).toNat 64))) (Int.fdiv a1 (2 ^ (min ((IntKind.wrap .u64 (64 - (IntKind.wrap .u64 r0)))).toNat 64)))) (Int.fdiv (IntKind.wrap .u64 (a2 * 2 ^ (min ((IntKind.wrap .u64 r0)).toNat 64))) 4294967296))) * (Int.fdiv (IntKind.wrap .u64 (a2 * 2 ^ (min ((IntKind.wrap .u64 r0)).toNat 64))) 4294967296))))), ()))))))))), ())).bind fun r1 =>
            bif (!(decide (r1.1.2.2.1 = 0))) then
              (iter (bits_Div64_L24 N) N ((r1.1.1, (r1.1.2.1, (r1.1.2.2.1, (r1.1.2.2.2.1, (r1.1.2.2.2.2.2.2.1, (r1.1.2.2.2.2.2.2.2.1, ((IntKind.wrap .u64 ((IntKind.wrap .u64 ((IntKind.wrap .u64 ((IntKind.wrap .u64 (r1.1.2.2.2.2.1 * 4294967296)) + r1.1.2.2.2.2.2.1)) - (IntKind.wrap .u64 (r1.1.2.2.2.2.2.2.2.1 * r1.1.1)))) - (IntKind.wrap .u64 ((IntKind.wrap .u64 (Int.tdiv (IntKind.wrap .u64 ((IntKind.wrap .u64 ((IntKind.wrap .u64 (r1.1.2.2.2.2.1 * 4294967296)) + r1.1.2.2.2.2.2.1)) - (IntKind.wrap .u64 (r1.1.2.2.2.2.2.2.2.1 * r1.1.1)))) r1.1.2.2.1)) * r1.1.2.2.1)))), ((IntKind.wrap .u64 ((IntKind.wrap .u64 ((IntKind.wrap .u64 (r1.1.2.2.2.2.1 * 4294967296)) + r1.1.2.2.2.2.2.1)) - (IntKind.wrap .u64 (r1.1.2.2.2.2.2.2.2.1 * r1.1.1)))), ((IntKind.wrap .u64 (Int.tdiv (IntKind.wrap .u64 ((IntKind.wrap .u64 ((IntKind.wrap .u64 (r1.1.2.2.2.2.1 * 4294967296)) + r1.1.2.2.2.2.2.1)) - (IntKind.wrap .u64 (r1.1.2.2.2.2.2.2.2.1 * r1.1.1)))) r1.1.2.2.1)), ()))))))))), ())).bind fun r2 =>
              bif (!(decide (r2.1.2.1 < 0))) then
                some ((IntKind.wrap .u64 ((IntKind.wrap .u64 (r2.1.2.2.2.1 * 4294967296)) + r2.1.2.2.2.2.2.1)), (Int.fdiv (IntKind.wrap .u64 ((IntKind.wrap .u64 ((IntKind.wrap .u64 (r2.1.2.2.2.2.1 * 4294967296)) + r2.1.2.2.1)) - (IntKind.wrap .u64 (r2.1.2.2.2.2.2.1 * r2.1.1)))) (2 ^ (min (r2.1.2.1).toNat 64))))
              else none
            else none
          else none
        else none
      else none
    else none
  else none
def wide_Div (N : Nat) (a0 : (Int × Int)) (a1 : Int) : Option ((Int × Int) × Int) :=
  bif (a1 == 0) then
    some ((0, 0), 0)
  else bif (!(decide (a1 = 0))) then
    bif (!(decide (a1 = 0))) then
      (bits_Div64 N (Int.tmod a0.1 a1) a0.2 a1).bind fun r0 =>
      some (((IntKind.wrap .u64 (Int.tdiv a0.1 a1)), r0.1), r0.2)
    else none
  else none
def wide_muldiv (N : Nat) (a0 : Int) (a1 : Int) (a2 : Int) : Option ((Int × Int) × (Bool × Int)) :=
  bif ((decide (a0 < 0)) == false) then
    bif ((decide (a1 < 0)) == false) then
      bif (decide (a2 ≤ 0)) then
        some ((0, 0), (false, 1))
      else (wide_Mul N (IntKind.wrap .u64 a0) (IntKind.wrap .u64 a1)).bind fun r0 =>
      (wide_Div N r0 (IntKind.wrap .u64 a2)).bind fun r1 =>
      some (r1.1, ((decide ((0 : Int) < r1.2)), 0))
    else some ((0, 0), (false, 1))
  else some ((0, 0), (false, 1))
def cmp_isNaN_uint64 (_N : Nat) (a0 : Int) : Option Bool :=
  some (!(a0 == a0))
def cmp_Compare_uint64 (N : Nat) (a0 : Int) (a1 : Int) : Option Int :=
  (cmp_isNaN_uint64 N a0).bind fun r0 =>
  (cmp_isNaN_uint64 N a1).bind fun r1 =>
  bif r0 then
    bif r1 then
      some 0
    else some (-1)
  else bif r1 then
    some 1
  else bif (decide (a0 < a1)) then
    some (-1)
  else bif (decide (a1 < a0)) then
    some 1
  else some 0
def cmp_Or_int_L3 (_N : Nat) (F : ((Int × (Int × (Int × Unit))) × ((List Int) × Unit)) → Option (((Int × Unit) × Unit) ⊕ ((Int × Unit) × Unit))) (x : ((Int × (Int × (Int × Unit))) × ((List Int) × Unit))) : Option (((Int × Unit) × Unit) ⊕ ((Int × Unit) × Unit)) :=
  bif (decide (x.1.2.2.1 < x.1.2.1)) then
    bif ((decide ((0 : Int) ≤ x.1.2.2.1)) && (decide (x.1.2.2.1 < (((x.2.1).length : Nat) : Int)))) then
      bif (!((x.2.1.getD (x.1.2.2.1).toNat 0) == x.1.1)) then
        some (.inl (((x.2.1.getD (x.1.2.2.1).toNat 0), ()), ()))
      else F ((x.1.1, (x.1.2.1, ((IntKind.wrap .i64 (x.1.2.2.1 + 1)), ()))), (x.2.1, ()))
    else none
  else some (.inr ((x.1.1, ()), ()))
def cmp_Or_int (N : Nat) (a0 : (List Int)) : Option Int :=
  (iter (cmp_Or_int_L3 N) N ((0, ((((a0).length : Nat) : Int), (0, ()))), (a0, ()))).bind fun r0 =>
  match r0 with
  | .inl r1 =>
    some r1.1.1
  | .inr r2 =>
    some r2.1.1
def wide_Cmp (N : Nat) (a0 : (Int × Int)) (a1 : (Int × Int)) : Option Int :=
  bif ((a0.1 == a1.1) && ((a0.2 == a1.2) && true)) then
    some 0
  else (cmp_Compare_uint64 N a0.1 a1.1).bind fun r0 =>
  (cmp_Compare_uint64 N a0.2 a1.2).bind fun r1 =>
  (cmp_Or_int N ([r0, r1] : List Int)).bind fun r2 =>
  some r2
def wide_told (N : Nat) (a0 : (Int × Int)) (a1 : Int) : Option (Int × Int) :=
  bif (!(a1 == 0)) then
    some (0, a1)
  else (wide_Cmp N a0 (0, 9223372036854775807)).bind fun r0 =>
  bif (decide ((0 : Int) < r0)) then
    some (0, 8)
  else some ((IntKind.wrap .i64 a0.2), 0)
def wide_MulDiv (N : Nat) (a0 : Int) (a1 : Int) (a2 : Int) : Option (Int × Int) :=
  (wide_muldiv N a0 a1 a2).bind fun r0 =>
  (wide_told N r0.1 r0.2.2).bind fun r1 =>
  some r1
def sat_Add (N : Nat) (a0 : Int) (a1 : Int) : Option Int :=
  bif (decide ((bits .and .i64 (bits .xor .i64 a0 (IntKind.wrap .i64 (a0 + a1))) (bits .xor .i64 a1 (IntKind.wrap .i64 (a0 + a1)))) < 0)) then
    (sat_end N (decide (a0 < 0))).bind fun r0 =>
    some r0
  else some (IntKind.wrap .i64 (a0 + a1))
def cubic_Target (N : Nat) (a0 : (Int × (Int × (Int × (Int × (Int × Int)))))) (a1 : Int) (a2 : Int) : Option Int :=
  (cubic_within N a0 a2).bind fun r0 =>
  (cubic_size N a2).bind fun r1 =>
  (sat_Clamp N a1 0 1125899906842624).bind fun r2 =>
  bif ((decide ((0 : Int) ≤ r0.2.2.2.1)) == true) then
    bif (decide (r0.2.2.2.1 < r2)) then
      (cubic_Wait N r0.2.2.1 r0.2.2.2.2.1 r1).bind fun r3 =>
      (sat_Clamp N (IntKind.wrap .i64 ((IntKind.wrap .i64 (Int.tdiv (IntKind.wrap .i64 (r2 - r0.2.2.2.1)) 1000)) - r3)) (-1048576) 1048576).bind fun r4 =>
      (sat_Abs N (IntKind.wrap .i64 ((IntKind.wrap .i64 (r4 * r4)) * r4))).bind fun r5 =>
      (wide_MulDiv N r5 r1 2500000000).bind fun r6 =>
      bif (!(r6.2 == 0)) then
        bif (decide (r4 < 0)) then
          (sat_Add N r0.2.2.1 (-9223372036854775807)).bind fun r7 =>
          (sat_Clamp N r7 r1 1073741824).bind fun r8 =>
          some r8
        else (sat_Add N r0.2.2.1 9223372036854775807).bind fun r9 =>
        (sat_Clamp N r9 r1 1073741824).bind fun r10 =>
        some r10
      else bif (decide (r4 < 0)) then
        (sat_Add N r0.2.2.1 (IntKind.wrap .i64 (0 - r6.1))).bind fun r11 =>
        (sat_Clamp N r11 r1 1073741824).bind fun r12 =>
        some r12
      else (sat_Add N r0.2.2.1 r6.1).bind fun r13 =>
      (sat_Clamp N r13 r1 1073741824).bind fun r14 =>
      some r14
    else (cubic_Wait N r0.2.2.1 r0.2.2.2.2.1 r1).bind fun r15 =>
    (sat_Clamp N (IntKind.wrap .i64 (0 - r15)) (-1048576) 1048576).bind fun r16 =>
    (sat_Abs N (IntKind.wrap .i64 ((IntKind.wrap .i64 (r16 * r16)) * r16))).bind fun r17 =>
    (wide_MulDiv N r17 r1 2500000000).bind fun r18 =>
    bif (!(r18.2 == 0)) then
      bif (decide (r16 < 0)) then
        (sat_Add N r0.2.2.1 (-9223372036854775807)).bind fun r19 =>
        (sat_Clamp N r19 r1 1073741824).bind fun r20 =>
        some r20
      else (sat_Add N r0.2.2.1 9223372036854775807).bind fun r21 =>
      (sat_Clamp N r21 r1 1073741824).bind fun r22 =>
      some r22
    else bif (decide (r16 < 0)) then
      (sat_Add N r0.2.2.1 (IntKind.wrap .i64 (0 - r18.1))).bind fun r23 =>
      (sat_Clamp N r23 r1 1073741824).bind fun r24 =>
      some r24
    else (sat_Add N r0.2.2.1 r18.1).bind fun r25 =>
    (sat_Clamp N r25 r1 1073741824).bind fun r26 =>
    some r26
  else (cubic_Wait N r0.2.2.1 r0.2.2.2.2.1 r1).bind fun r27 =>
  (sat_Clamp N (IntKind.wrap .i64 (0 - r27)) (-1048576) 1048576).bind fun r28 =>
  (sat_Abs N (IntKind.wrap .i64 ((IntKind.wrap .i64 (r28 * r28)) * r28))).bind fun r29 =>
  (wide_MulDiv N r29 r1 2500000000).bind fun r30 =>
  bif (!(r30.2 == 0)) then
    bif (decide (r28 < 0)) then
      (sat_Add N r0.2.2.1 (-9223372036854775807)).bind fun r31 =>
      (sat_Clamp N r31 r1 1073741824).bind fun r32 =>
      some r32
    else (sat_Add N r0.2.2.1 9223372036854775807).bind fun r33 =>
    (sat_Clamp N r33 r1 1073741824).bind fun r34 =>
    some r34
  else bif (decide (r28 < 0)) then
    (sat_Add N r0.2.2.1 (IntKind.wrap .i64 (0 - r30.1))).bind fun r35 =>
    (sat_Clamp N r35 r1 1073741824).bind fun r36 =>
    some r36
  else (sat_Add N r0.2.2.1 r30.1).bind fun r37 =>
  (sat_Clamp N r37 r1 1073741824).bind fun r38 =>
  some r38
def leatref02_Bits_L3 (_N : Nat) (F : ((Int × (Int × (Int × Unit))) × ((List Int) × Unit)) → Option (Unit × ((List Int) × Unit))) (x : ((Int × (Int × (Int × Unit))) × ((List Int) × Unit))) : Option (Unit × ((List Int) × Unit)) :=
  bif (decide (x.1.2.2.1 < x.1.2.1)) then
    bif (decide ((((x.2.1).length + (([(IntKind.wrap .i64 (Int.tmod x.1.1 2))] : List Int)).length) * 8) ≤ 140737488355328)) then
      F (((IntKind.wrap .u64 (Int.tdiv x.1.1 2)), (x.1.2.1, ((IntKind.wrap .i64 (x.1.2.2.1 + 1)), ()))), ((x.2.1 ++ ([(IntKind.wrap .i64 (Int.tmod x.1.1 2))] : List Int)), ()))
    else none
  else some ((), (x.2.1, ()))
def leatref02_Bits (N : Nat) (a0 : Int) (a1 : Int) : Option (List Int) :=
  (iter (leatref02_Bits_L3 N) N ((a0, (a1, (0, ()))), (([] : List Int), ()))).bind fun r0 =>
  some r0.2.1
def leatref02_Add_L4 (_N : Nat) (F : ((Int × (Int × Unit)) × ((List Int) × ((List Int) × ((List Int) × Unit)))) → Option ((Int × Unit) × ((List Int) × Unit))) (x : ((Int × (Int × Unit)) × ((List Int) × ((List Int) × ((List Int) × Unit))))) : Option ((Int × Unit) × ((List Int) × Unit)) :=
  bif ((decide (x.1.2.1 < (((x.2.1).length : Nat) : Int))) == false) then
    bif (decide (x.1.2.1 < (((x.2.2.1).length : Nat) : Int))) then
      bif (decide (x.1.2.1 < (((x.2.1).length : Nat) : Int))) then
        bif ((decide ((0 : Int) ≤ x.1.2.1)) && (decide (x.1.2.1 < (((x.2.1).length : Nat) : Int)))) then
          bif (decide (x.1.2.1 < (((x.2.2.1).length : Nat) : Int))) then
            bif ((decide ((0 : Int) ≤ x.1.2.1)) && (decide (x.1.2.1 < (((x.2.2.1).length : Nat) : Int)))) then
              bif (decide ((((x.2.2.2.1).length + (([(Int.tmod (IntKind.wrap .i64 ((IntKind.wrap .i64 (x.1.1 + (x.2.1.getD (x.1.2.1).toNat 0))) + (x.2.2.1.getD (x.1.2.1).toNat 0))) 2)] : List Int)).length) * 8) ≤ 140737488355328)) then
                F (((IntKind.wrap .i64 (Int.tdiv (IntKind.wrap .i64 ((IntKind.wrap .i64 (x.1.1 + (x.2.1.getD (x.1.2.1).toNat 0))) + (x.2.2.1.getD (x.1.2.1).toNat 0))) 2)), ((IntKind.wrap .i64 (x.1.2.1 + 1)), ())), (x.2.1, (x.2.2.1, ((x.2.2.2.1 ++ ([(Int.tmod (IntKind.wrap .i64 ((IntKind.wrap .i64 (x.1.1 + (x.2.1.getD (x.1.2.1).toNat 0))) + (x.2.2.1.getD (x.1.2.1).toNat 0))) 2)] : List Int)), ()))))
              else none
            else none
          else bif (decide ((((x.2.2.2.1).length + (([(Int.tmod (IntKind.wrap .i64 (x.1.1 + (x.2.1.getD (x.1.2.1).toNat 0))) 2)] : List Int)).length) * 8) ≤ 140737488355328)) then
            F (((IntKind.wrap .i64 (Int.tdiv (IntKind.wrap .i64 (x.1.1 + (x.2.1.getD (x.1.2.1).toNat 0))) 2)), ((IntKind.wrap .i64 (x.1.2.1 + 1)), ())), (x.2.1, (x.2.2.1, ((x.2.2.2.1 ++ ([(Int.tmod (IntKind.wrap .i64 (x.1.1 + (x.2.1.getD (x.1.2.1).toNat 0))) 2)] : List Int)), ()))))
          else none
        else none
      else bif (decide (x.1.2.1 < (((x.2.2.1).length : Nat) : Int))) then
        bif ((decide ((0 : Int) ≤ x.1.2.1)) && (decide (x.1.2.1 < (((x.2.2.1).length : Nat) : Int)))) then
          bif (decide ((((x.2.2.2.1).length + (([(Int.tmod (IntKind.wrap .i64 (x.1.1 + (x.2.2.1.getD (x.1.2.1).toNat 0))) 2)] : List Int)).length) * 8) ≤ 140737488355328)) then
            F (((IntKind.wrap .i64 (Int.tdiv (IntKind.wrap .i64 (x.1.1 + (x.2.2.1.getD (x.1.2.1).toNat 0))) 2)), ((IntKind.wrap .i64 (x.1.2.1 + 1)), ())), (x.2.1, (x.2.2.1, ((x.2.2.2.1 ++ ([(Int.tmod (IntKind.wrap .i64 (x.1.1 + (x.2.2.1.getD (x.1.2.1).toNat 0))) 2)] : List Int)), ()))))
          else none
        else none
      else bif (decide ((((x.2.2.2.1).length + (([(Int.tmod x.1.1 2)] : List Int)).length) * 8) ≤ 140737488355328)) then
        F (((IntKind.wrap .i64 (Int.tdiv x.1.1 2)), ((IntKind.wrap .i64 (x.1.2.1 + 1)), ())), (x.2.1, (x.2.2.1, ((x.2.2.2.1 ++ ([(Int.tmod x.1.1 2)] : List Int)), ()))))
      else none
    else some ((x.1.1, ()), (x.2.2.2.1, ()))
  else bif (decide (x.1.2.1 < (((x.2.1).length : Nat) : Int))) then
    bif ((decide ((0 : Int) ≤ x.1.2.1)) && (decide (x.1.2.1 < (((x.2.1).length : Nat) : Int)))) then
      bif (decide (x.1.2.1 < (((x.2.2.1).length : Nat) : Int))) then
        bif ((decide ((0 : Int) ≤ x.1.2.1)) && (decide (x.1.2.1 < (((x.2.2.1).length : Nat) : Int)))) then
          bif (decide ((((x.2.2.2.1).length + (([(Int.tmod (IntKind.wrap .i64 ((IntKind.wrap .i64 (x.1.1 + (x.2.1.getD (x.1.2.1).toNat 0))) + (x.2.2.1.getD (x.1.2.1).toNat 0))) 2)] : List Int)).length) * 8) ≤ 140737488355328)) then
            F (((IntKind.wrap .i64 (Int.tdiv (IntKind.wrap .i64 ((IntKind.wrap .i64 (x.1.1 + (x.2.1.getD (x.1.2.1).toNat 0))) + (x.2.2.1.getD (x.1.2.1).toNat 0))) 2)), ((IntKind.wrap .i64 (x.1.2.1 + 1)), ())), (x.2.1, (x.2.2.1, ((x.2.2.2.1 ++ ([(Int.tmod (IntKind.wrap .i64 ((IntKind.wrap .i64 (x.1.1 + (x.2.1.getD (x.1.2.1).toNat 0))) + (x.2.2.1.getD (x.1.2.1).toNat 0))) 2)] : List Int)), ()))))
          else none
        else none
      else bif (decide ((((x.2.2.2.1).length + (([(Int.tmod (IntKind.wrap .i64 (x.1.1 + (x.2.1.getD (x.1.2.1).toNat 0))) 2)] : List Int)).length) * 8) ≤ 140737488355328)) then
        F (((IntKind.wrap .i64 (Int.tdiv (IntKind.wrap .i64 (x.1.1 + (x.2.1.getD (x.1.2.1).toNat 0))) 2)), ((IntKind.wrap .i64 (x.1.2.1 + 1)), ())), (x.2.1, (x.2.2.1, ((x.2.2.2.1 ++ ([(Int.tmod (IntKind.wrap .i64 (x.1.1 + (x.2.1.getD (x.1.2.1).toNat 0))) 2)] : List Int)), ()))))
      else none
    else none
  else bif (decide (x.1.2.1 < (((x.2.2.1).length : Nat) : Int))) then
    bif ((decide ((0 : Int) ≤ x.1.2.1)) && (decide (x.1.2.1 < (((x.2.2.1).length : Nat) : Int)))) then
      bif (decide ((((x.2.2.2.1).length + (([(Int.tmod (IntKind.wrap .i64 (x.1.1 + (x.2.2.1.getD (x.1.2.1).toNat 0))) 2)] : List Int)).length) * 8) ≤ 140737488355328)) then
        F (((IntKind.wrap .i64 (Int.tdiv (IntKind.wrap .i64 (x.1.1 + (x.2.2.1.getD (x.1.2.1).toNat 0))) 2)), ((IntKind.wrap .i64 (x.1.2.1 + 1)), ())), (x.2.1, (x.2.2.1, ((x.2.2.2.1 ++ ([(Int.tmod (IntKind.wrap .i64 (x.1.1 + (x.2.2.1.getD (x.1.2.1).toNat 0))) 2)] : List Int)), ()))))
      else none
    else none
  else bif (decide ((((x.2.2.2.1).length + (([(Int.tmod x.1.1 2)] : List Int)).length) * 8) ≤ 140737488355328)) then
    F (((IntKind.wrap .i64 (Int.tdiv x.1.1 2)), ((IntKind.wrap .i64 (x.1.2.1 + 1)), ())), (x.2.1, (x.2.2.1, ((x.2.2.2.1 ++ ([(Int.tmod x.1.1 2)] : List Int)), ()))))
  else none
def leatref02_Add (N : Nat) (a0 : (List Int)) (a1 : (List Int)) : Option (List Int) :=
  (iter (leatref02_Add_L4 N) N ((0, (0, ())), (a0, (a1, (([] : List Int), ()))))).bind fun r0 =>
  bif (decide ((((r0.2.1).length + (([r0.1.1] : List Int)).length) * 8) ≤ 140737488355328)) then
    some (r0.2.1 ++ ([r0.1.1] : List Int))
  else none
def leatref02_Mul_L3 (N : Nat) (F : ((Int × Unit) × ((List Int) × ((List Int) × ((List Int) × Unit)))) → Option (Unit × ((List Int) × Unit))) (x : ((Int × Unit) × ((List Int) × ((List Int) × ((List Int) × Unit))))) : Option (Unit × ((List Int) × Unit)) :=
  bif (decide (x.1.1 < (((x.2.2.1).length : Nat) : Int))) then
    bif ((decide ((0 : Int) ≤ x.1.1)) && (decide (x.1.1 < (((x.2.2.1).length : Nat) : Int)))) then
      bif ((x.2.2.1.getD (x.1.1).toNat 0) == 1) then
        bif ((decide ((0 : Int) ≤ x.1.1)) && (((decide (x.1.1 = x.1.1)) && (decide ((x.1.1 * 8) ≤ 140737488355328))) && (decide (x.1.1 ≤ 140737488355328)))) then
          bif (decide (((((List.replicate (x.1.1).toNat (0 : Int))).length + (x.2.1).length) * 8) ≤ 140737488355328)) then
            (leatref02_Add N x.2.2.2.1 ((List.replicate (x.1.1).toNat (0 : Int)) ++ x.2.1)).bind fun r0 =>
            F (((IntKind.wrap .i64 (x.1.1 + 1)), ()), (x.2.1, (x.2.2.1, (r0, ()))))
          else none
        else none
      else F (((IntKind.wrap .i64 (x.1.1 + 1)), ()), (x.2.1, (x.2.2.1, (x.2.2.2.1, ()))))
    else none
  else some ((), (x.2.2.2.1, ()))
def leatref02_Mul (N : Nat) (a0 : (List Int)) (a1 : (List Int)) : Option (List Int) :=
  (iter (leatref02_Mul_L3 N) N ((0, ()), (a0, (a1, (([0] : List Int), ()))))).bind fun r0 =>
  some r0.2.1
def leatref02_Cmp_L2 (_N : Nat) (F : ((Int × Unit) × ((List Int) × ((List Int) × Unit))) → Option (((Int × Unit) × Unit) ⊕ (Unit × Unit))) (x : ((Int × Unit) × ((List Int) × ((List Int) × Unit)))) : Option (((Int × Unit) × Unit) ⊕ (Unit × Unit)) :=
  bif (decide ((0 : Int) ≤ x.1.1)) then
    bif (decide (x.1.1 < (((x.2.1).length : Nat) : Int))) then
      bif ((decide ((0 : Int) ≤ x.1.1)) && (decide (x.1.1 < (((x.2.1).length : Nat) : Int)))) then
        bif (decide (x.1.1 < (((x.2.2.1).length : Nat) : Int))) then
          bif ((decide ((0 : Int) ≤ x.1.1)) && (decide (x.1.1 < (((x.2.2.1).length : Nat) : Int)))) then
            bif (decide ((x.2.1.getD (x.1.1).toNat 0) < (x.2.2.1.getD (x.1.1).toNat 0))) then
              some (.inl (((-1), ()), ()))
            else bif (decide ((x.2.2.1.getD (x.1.1).toNat 0) < (x.2.1.getD (x.1.1).toNat 0))) then
              some (.inl ((1, ()), ()))
            else F (((IntKind.wrap .i64 (x.1.1 - 1)), ()), (x.2.1, (x.2.2.1, ())))
          else none
        else bif (decide ((x.2.1.getD (x.1.1).toNat 0) < 0)) then
          some (.inl (((-1), ()), ()))
        else bif (decide ((0 : Int) < (x.2.1.getD (x.1.1).toNat 0))) then
          some (.inl ((1, ()), ()))
        else F (((IntKind.wrap .i64 (x.1.1 - 1)), ()), (x.2.1, (x.2.2.1, ())))
      else none
    else bif (decide (x.1.1 < (((x.2.2.1).length : Nat) : Int))) then
      bif ((decide ((0 : Int) ≤ x.1.1)) && (decide (x.1.1 < (((x.2.2.1).length : Nat) : Int)))) then
        bif (decide ((0 : Int) < (x.2.2.1.getD (x.1.1).toNat 0))) then
          some (.inl (((-1), ()), ()))
        else bif (decide ((x.2.2.1.getD (x.1.1).toNat 0) < 0)) then
          some (.inl ((1, ()), ()))
        else F (((IntKind.wrap .i64 (x.1.1 - 1)), ()), (x.2.1, (x.2.2.1, ())))
      else none
    else F (((IntKind.wrap .i64 (x.1.1 - 1)), ()), (x.2.1, (x.2.2.1, ())))
  else some (.inr ((), ()))
def leatref02_Cmp (N : Nat) (a0 : (List Int)) (a1 : (List Int)) : Option Int :=
  (iter (leatref02_Cmp_L2 N) N (((IntKind.wrap .i64 ((if (((a1).length : Nat) : Int) > (((a0).length : Nat) : Int) then (((a1).length : Nat) : Int) else (((a0).length : Nat) : Int)) - 1)), ()), (a0, (a1, ())))).bind fun r0 =>
  match r0 with
  | .inl r1 =>
    some r1.1.1
  | .inr _ =>
    some 0
def leatref02_Sub_L4 (_N : Nat) (F : ((Int × (Int × Unit)) × ((List Int) × ((List Int) × ((List Int) × Unit)))) → Option (Unit × ((List Int) × Unit))) (x : ((Int × (Int × Unit)) × ((List Int) × ((List Int) × ((List Int) × Unit))))) : Option (Unit × ((List Int) × Unit)) :=
  bif (decide (x.1.2.1 < (((x.2.1).length : Nat) : Int))) then
    bif ((decide ((0 : Int) ≤ x.1.2.1)) && (decide (x.1.2.1 < (((x.2.1).length : Nat) : Int)))) then
      bif (decide (x.1.2.1 < (((x.2.2.1).length : Nat) : Int))) then
        bif ((decide ((0 : Int) ≤ x.1.2.1)) && (decide (x.1.2.1 < (((x.2.2.1).length : Nat) : Int)))) then
          bif (decide ((IntKind.wrap .i64 ((IntKind.wrap .i64 ((x.2.1.getD (x.1.2.1).toNat 0) - x.1.1)) - (x.2.2.1.getD (x.1.2.1).toNat 0))) < 0)) then
            bif (decide ((((x.2.2.2.1).length + (([(IntKind.wrap .i64 ((IntKind.wrap .i64 ((IntKind.wrap .i64 ((x.2.1.getD (x.1.2.1).toNat 0) - x.1.1)) - (x.2.2.1.getD (x.1.2.1).toNat 0))) + 2))] : List Int)).length) * 8) ≤ 140737488355328)) then
              F ((1, ((IntKind.wrap .i64 (x.1.2.1 + 1)), ())), (x.2.1, (x.2.2.1, ((x.2.2.2.1 ++ ([(IntKind.wrap .i64 ((IntKind.wrap .i64 ((IntKind.wrap .i64 ((x.2.1.getD (x.1.2.1).toNat 0) - x.1.1)) - (x.2.2.1.getD (x.1.2.1).toNat 0))) + 2))] : List Int)), ()))))
            else none
          else bif (decide ((((x.2.2.2.1).length + (([(IntKind.wrap .i64 ((IntKind.wrap .i64 ((x.2.1.getD (x.1.2.1).toNat 0) - x.1.1)) - (x.2.2.1.getD (x.1.2.1).toNat 0)))] : List Int)).length) * 8) ≤ 140737488355328)) then
            F ((0, ((IntKind.wrap .i64 (x.1.2.1 + 1)), ())), (x.2.1, (x.2.2.1, ((x.2.2.2.1 ++ ([(IntKind.wrap .i64 ((IntKind.wrap .i64 ((x.2.1.getD (x.1.2.1).toNat 0) - x.1.1)) - (x.2.2.1.getD (x.1.2.1).toNat 0)))] : List Int)), ()))))
          else none
        else none
      else bif (decide ((IntKind.wrap .i64 ((x.2.1.getD (x.1.2.1).toNat 0) - x.1.1)) < 0)) then
        bif (decide ((((x.2.2.2.1).length + (([(IntKind.wrap .i64 ((IntKind.wrap .i64 ((x.2.1.getD (x.1.2.1).toNat 0) - x.1.1)) + 2))] : List Int)).length) * 8) ≤ 140737488355328)) then
          F ((1, ((IntKind.wrap .i64 (x.1.2.1 + 1)), ())), (x.2.1, (x.2.2.1, ((x.2.2.2.1 ++ ([(IntKind.wrap .i64 ((IntKind.wrap .i64 ((x.2.1.getD (x.1.2.1).toNat 0) - x.1.1)) + 2))] : List Int)), ()))))
        else none
      else bif (decide ((((x.2.2.2.1).length + (([(IntKind.wrap .i64 ((x.2.1.getD (x.1.2.1).toNat 0) - x.1.1))] : List Int)).length) * 8) ≤ 140737488355328)) then
        F ((0, ((IntKind.wrap .i64 (x.1.2.1 + 1)), ())), (x.2.1, (x.2.2.1, ((x.2.2.2.1 ++ ([(IntKind.wrap .i64 ((x.2.1.getD (x.1.2.1).toNat 0) - x.1.1))] : List Int)), ()))))
      else none
    else none
  else some ((), (x.2.2.2.1, ()))
def leatref02_Sub (N : Nat) (a0 : (List Int)) (a1 : (List Int)) : Option (List Int) :=
  (iter (leatref02_Sub_L4 N) N ((0, (0, ())), (a0, (a1, (([] : List Int), ()))))).bind fun r0 =>
  some r0.2.1
def leatref02_Div_L4 (N : Nat) (F : ((Int × Unit) × ((List Int) × ((List Int) × ((List Int) × ((List Int) × Unit))))) → Option (Unit × ((List Int) × ((List Int) × Unit)))) (x : ((Int × Unit) × ((List Int) × ((List Int) × ((List Int) × ((List Int) × Unit)))))) : Option (Unit × ((List Int) × ((List Int) × Unit))) :=
  bif (decide ((0 : Int) ≤ x.1.1)) then
    bif ((decide ((0 : Int) ≤ x.1.1)) && (decide (x.1.1 < (((x.2.1).length : Nat) : Int)))) then
      bif (decide ((((([(x.2.1.getD (x.1.1).toNat 0)] : List Int)).length + (x.2.2.2.2.1).length) * 8) ≤ 140737488355328)) then
        (leatref02_Cmp N (([(x.2.1.getD (x.1.1).toNat 0)] : List Int) ++ x.2.2.2.2.1) x.2.2.1).bind fun r0 =>
        bif (decide ((0 : Int) ≤ r0)) then
          (leatref02_Sub N (([(x.2.1.getD (x.1.1).toNat 0)] : List Int) ++ x.2.2.2.2.1) x.2.2.1).bind fun r1 =>
          bif ((decide ((0 : Int) ≤ x.1.1)) && (decide (x.1.1 < (((x.2.2.2.1).length : Nat) : Int)))) then
            F (((IntKind.wrap .i64 (x.1.1 - 1)), ()), (x.2.1, (x.2.2.1, ((x.2.2.2.1.set (x.1.1).toNat 1), (r1, ())))))
          else none
        else F (((IntKind.wrap .i64 (x.1.1 - 1)), ()), (x.2.1, (x.2.2.1, (x.2.2.2.1, ((([(x.2.1.getD (x.1.1).toNat 0)] : List Int) ++ x.2.2.2.2.1), ())))))
      else none
    else none
  else some ((), (x.2.2.2.1, (x.2.2.2.2.1, ())))
def leatref02_Div (N : Nat) (a0 : (List Int)) (a1 : (List Int)) : Option ((List Int) × (List Int)) :=
  bif ((decide ((0 : Int) ≤ (((a0).length : Nat) : Int))) && (((decide ((((a0).length : Nat) : Int) = (((a0).length : Nat) : Int))) && (decide (((((a0).length : Nat) : Int) * 8) ≤ 140737488355328))) && (decide ((((a0).length : Nat) : Int) ≤ 140737488355328)))) then
    (iter (leatref02_Div_L4 N) N (((IntKind.wrap .i64 ((((a0).length : Nat) : Int) - 1)), ()), (a0, (a1, ((List.replicate ((((a0).length : Nat) : Int)).toNat (0 : Int)), (([0] : List Int), ())))))).bind fun r0 =>
    some (r0.2.1, r0.2.2.1)
  else none
def leatref02_Num_L3 (_N : Nat) (F : ((Int × (Int × (Int × Unit))) × ((List Int) × Unit)) → Option ((Int × Unit) × Unit)) (x : ((Int × (Int × (Int × Unit))) × ((List Int) × Unit))) : Option ((Int × Unit) × Unit) :=
  bif (decide ((0 : Int) ≤ x.1.2.2.1)) then
    bif ((decide ((IntKind.wrap .i64 (x.1.1 + x.1.2.2.1)) < (((x.2.1).length : Nat) : Int))) == true) then
      bif ((decide ((0 : Int) ≤ (IntKind.wrap .i64 (x.1.1 + x.1.2.2.1)))) && (decide ((IntKind.wrap .i64 (x.1.1 + x.1.2.2.1)) < (((x.2.1).length : Nat) : Int)))) then
        bif ((x.2.1.getD ((IntKind.wrap .i64 (x.1.1 + x.1.2.2.1))).toNat 0) == 1) then
          F ((x.1.1, ((IntKind.wrap .u64 ((IntKind.wrap .u64 (x.1.2.1 * 2)) + 1)), ((IntKind.wrap .i64 (x.1.2.2.1 - 1)), ()))), (x.2.1, ()))
        else F ((x.1.1, ((IntKind.wrap .u64 (x.1.2.1 * 2)), ((IntKind.wrap .i64 (x.1.2.2.1 - 1)), ()))), (x.2.1, ()))
      else none
    else F ((x.1.1, ((IntKind.wrap .u64 (x.1.2.1 * 2)), ((IntKind.wrap .i64 (x.1.2.2.1 - 1)), ()))), (x.2.1, ()))
  else some ((x.1.2.1, ()), ())
def leatref02_Num (N : Nat) (a0 : (List Int)) (a1 : Int) : Option Int :=
  (iter (leatref02_Num_L3 N) N ((a1, (0, (63, ()))), (a0, ()))).bind fun r0 =>
  some r0.1.1
def leatref02_MulDiv (N : Nat) (a0 : Int) (a1 : Int) (a2 : Int) (a3 : Bool) : Option (Int × Int) :=
  bif ((decide (a0 < 0)) == false) then
    bif ((decide (a1 < 0)) == false) then
      bif (decide (a2 ≤ 0)) then
        some (0, 1)
      else (leatref02_Bits N (IntKind.wrap .u64 a0) 64).bind fun r0 =>
      (leatref02_Bits N (IntKind.wrap .u64 a1) 64).bind fun r1 =>
      (leatref02_Mul N r0 r1).bind fun r2 =>
      (leatref02_Bits N (IntKind.wrap .u64 a2) 64).bind fun r3 =>
      (leatref02_Div N r2 r3).bind fun r4 =>
      bif (a3 == true) then
        (leatref02_Cmp N r4.2 ([0] : List Int)).bind fun r5 =>
        bif (decide ((0 : Int) < r5)) then
          (leatref02_Add N r4.1 ([1] : List Int)).bind fun r6 =>
          (leatref02_Bits N 9223372036854775807 64).bind fun r7 =>
          (leatref02_Cmp N r6 r7).bind fun r8 =>
          bif (decide ((0 : Int) < r8)) then
            some (0, 8)
          else (leatref02_Num N r6 0).bind fun r9 =>
          some ((IntKind.wrap .i64 r9), 0)
        else (leatref02_Bits N 9223372036854775807 64).bind fun r10 =>
        (leatref02_Cmp N r4.1 r10).bind fun r11 =>
        bif (decide ((0 : Int) < r11)) then
          some (0, 8)
        else (leatref02_Num N r4.1 0).bind fun r12 =>
        some ((IntKind.wrap .i64 r12), 0)
      else (leatref02_Bits N 9223372036854775807 64).bind fun r13 =>
      (leatref02_Cmp N r4.1 r13).bind fun r14 =>
      bif (decide ((0 : Int) < r14)) then
        some (0, 8)
      else (leatref02_Num N r4.1 0).bind fun r15 =>
      some ((IntKind.wrap .i64 r15), 0)
    else some (0, 1)
  else some (0, 1)
def leatref49_Target (N : Nat) (a0 : (Int × (Int × (Int × (Int × (Int × Int)))))) (a1 : Int) (a2 : Int) : Option Int :=
  (leatref49_Within N a0 a2).bind fun r0 =>
  (leatref49_keep N a1 0 1125899906842624).bind fun r1 =>
  bif ((decide ((0 : Int) ≤ r0.2.2.2.1)) == true) then
    bif (decide (r0.2.2.2.1 < r1)) then
      (leatref49_Wait N r0.2.2.1 r0.2.2.2.2.1 a2).bind fun r2 =>
      (leatref49_keep N (IntKind.wrap .i64 ((IntKind.wrap .i64 (Int.tdiv (IntKind.wrap .i64 (r1 - r0.2.2.2.1)) 1000)) - r2)) (-1048576) 1048576).bind fun r3 =>
      bif (decide (r3 < 0)) then
        (leatref49_Size N a2).bind fun r4 =>
        (leatref02_MulDiv N (IntKind.wrap .i64 ((IntKind.wrap .i64 ((IntKind.wrap .i64 (0 - r3)) * (IntKind.wrap .i64 (0 - r3)))) * (IntKind.wrap .i64 (0 - r3)))) r4 2500000000 false).bind fun r5 =>
        bif (decide (r3 < 0)) then
          (leatref49_Size N a2).bind fun r6 =>
          (leatref49_keep N (IntKind.wrap .i64 (r0.2.2.1 - r5.1)) r6 1073741824).bind fun r7 =>
          some r7
        else (leatref49_Size N a2).bind fun r8 =>
        (leatref49_keep N (IntKind.wrap .i64 (r0.2.2.1 + r5.1)) r8 1073741824).bind fun r9 =>
        some r9
      else (leatref49_Size N a2).bind fun r10 =>
      (leatref02_MulDiv N (IntKind.wrap .i64 ((IntKind.wrap .i64 (r3 * r3)) * r3)) r10 2500000000 false).bind fun r11 =>
      bif (decide (r3 < 0)) then
        (leatref49_Size N a2).bind fun r12 =>
        (leatref49_keep N (IntKind.wrap .i64 (r0.2.2.1 - r11.1)) r12 1073741824).bind fun r13 =>
        some r13
      else (leatref49_Size N a2).bind fun r14 =>
      (leatref49_keep N (IntKind.wrap .i64 (r0.2.2.1 + r11.1)) r14 1073741824).bind fun r15 =>
      some r15
    else (leatref49_Wait N r0.2.2.1 r0.2.2.2.2.1 a2).bind fun r16 =>
    (leatref49_keep N (IntKind.wrap .i64 (0 - r16)) (-1048576) 1048576).bind fun r17 =>
    bif (decide (r17 < 0)) then
      (leatref49_Size N a2).bind fun r18 =>
      (leatref02_MulDiv N (IntKind.wrap .i64 ((IntKind.wrap .i64 ((IntKind.wrap .i64 (0 - r17)) * (IntKind.wrap .i64 (0 - r17)))) * (IntKind.wrap .i64 (0 - r17)))) r18 2500000000 false).bind fun r19 =>
      bif (decide (r17 < 0)) then
        (leatref49_Size N a2).bind fun r20 =>
        (leatref49_keep N (IntKind.wrap .i64 (r0.2.2.1 - r19.1)) r20 1073741824).bind fun r21 =>
        some r21
      else (leatref49_Size N a2).bind fun r22 =>
      (leatref49_keep N (IntKind.wrap .i64 (r0.2.2.1 + r19.1)) r22 1073741824).bind fun r23 =>
      some r23
    else (leatref49_Size N a2).bind fun r24 =>
    (leatref02_MulDiv N (IntKind.wrap .i64 ((IntKind.wrap .i64 (r17 * r17)) * r17)) r24 2500000000 false).bind fun r25 =>
    bif (decide (r17 < 0)) then
      (leatref49_Size N a2).bind fun r26 =>
      (leatref49_keep N (IntKind.wrap .i64 (r0.2.2.1 - r25.1)) r26 1073741824).bind fun r27 =>
      some r27
    else (leatref49_Size N a2).bind fun r28 =>
    (leatref49_keep N (IntKind.wrap .i64 (r0.2.2.1 + r25.1)) r28 1073741824).bind fun r29 =>
    some r29
  else (leatref49_Wait N r0.2.2.1 r0.2.2.2.2.1 a2).bind fun r30 =>
  (leatref49_keep N (IntKind.wrap .i64 (0 - r30)) (-1048576) 1048576).bind fun r31 =>
  bif (decide (r31 < 0)) then
    (leatref49_Size N a2).bind fun r32 =>
    (leatref02_MulDiv N (IntKind.wrap .i64 ((IntKind.wrap .i64 ((IntKind.wrap .i64 (0 - r31)) * (IntKind.wrap .i64 (0 - r31)))) * (IntKind.wrap .i64 (0 - r31)))) r32 2500000000 false).bind fun r33 =>
    bif (decide (r31 < 0)) then
      (leatref49_Size N a2).bind fun r34 =>
      (leatref49_keep N (IntKind.wrap .i64 (r0.2.2.1 - r33.1)) r34 1073741824).bind fun r35 =>
      some r35
    else (leatref49_Size N a2).bind fun r36 =>
    (leatref49_keep N (IntKind.wrap .i64 (r0.2.2.1 + r33.1)) r36 1073741824).bind fun r37 =>
    some r37
  else (leatref49_Size N a2).bind fun r38 =>
  (leatref02_MulDiv N (IntKind.wrap .i64 ((IntKind.wrap .i64 (r31 * r31)) * r31)) r38 2500000000 false).bind fun r39 =>
  bif (decide (r31 < 0)) then
    (leatref49_Size N a2).bind fun r40 =>
    (leatref49_keep N (IntKind.wrap .i64 (r0.2.2.1 - r39.1)) r40 1073741824).bind fun r41 =>
    some r41
  else (leatref49_Size N a2).bind fun r42 =>
  (leatref49_keep N (IntKind.wrap .i64 (r0.2.2.1 + r39.1)) r42 1073741824).bind fun r43 =>
  some r43
def cubic_Hear (N : Nat) (a0 : (Int × (Int × (Int × (Int × (Int × Int)))))) (a1 : Int) (a2 : Int) (a3 : Int) : Option (Int × (Int × (Int × (Int × (Int × Int))))) :=
  (cubic_within N a0 a3).bind fun r0 =>
  (cubic_size N a3).bind fun r1 =>
  (sat_Clamp N a1 0 16777216).bind fun r2 =>
  bif (decide (r0.1 < r0.2.1)) then
    bif ((IntKind.wrap .i64 (r2 - (if (IntKind.wrap .i64 (r0.2.1 - r0.1)) < r2 then (IntKind.wrap .i64 (r0.2.1 - r0.1)) else r2))) == 0) then
      some ((IntKind.wrap .i64 (r0.1 + (if (IntKind.wrap .i64 (r0.2.1 - r0.1)) < r2 then (IntKind.wrap .i64 (r0.2.1 - r0.1)) else r2))), r0.2)
    else bif (decide (r0.2.2.2.1 < 0)) then
      (sat_Clamp N a2 0 1125899906842624).bind fun r3 =>
      bif (!(decide ((IntKind.wrap .i64 (100 * (IntKind.wrap .i64 (r0.1 + (if (IntKind.wrap .i64 (r0.2.1 - r0.1)) < r2 then (IntKind.wrap .i64 (r0.2.1 - r0.1)) else r2))))) = 0))) then
        (cubic_Target N ((IntKind.wrap .i64 (r0.1 + (if (IntKind.wrap .i64 (r0.2.1 - r0.1)) < r2 then (IntKind.wrap .i64 (r0.2.1 - r0.1)) else r2))), (r0.2.1, ((if (IntKind.wrap .i64 (r0.1 + (if (IntKind.wrap .i64 (r0.2.1 - r0.1)) < r2 then (IntKind.wrap .i64 (r0.2.1 - r0.1)) else r2))) > r0.2.2.1 then (IntKind.wrap .i64 (r0.1 + (if (IntKind.wrap .i64 (r0.2.1 - r0.1)) < r2 then (IntKind.wrap .i64 (r0.2.1 - r0.1)) else r2))) else r0.2.2.1), (r3, ((IntKind.wrap .i64 (r0.1 + (if (IntKind.wrap .i64 (r0.2.1 - r0.1)) < r2 then (IntKind.wrap .i64 (r0.2.1 - r0.1)) else r2))), r0.2.2.2.2.2))))) a2 r1).bind fun r4 =>
        bif (decide ((IntKind.wrap .i64 (r0.1 + (if (IntKind.wrap .i64 (r0.2.1 - r0.1)) < r2 then (IntKind.wrap .i64 (r0.2.1 - r0.1)) else r2))) < r4)) then
          (wide_MulDiv N (IntKind.wrap .i64 (r4 - (IntKind.wrap .i64 (r0.1 + (if (IntKind.wrap .i64 (r0.2.1 - r0.1)) < r2 then (IntKind.wrap .i64 (r0.2.1 - r0.1)) else r2))))) (IntKind.wrap .i64 (r2 - (if (IntKind.wrap .i64 (r0.2.1 - r0.1)) < r2 then (IntKind.wrap .i64 (r0.2.1 - r0.1)) else r2))) (IntKind.wrap .i64 (r0.1 + (if (IntKind.wrap .i64 (r0.2.1 - r0.1)) < r2 then (IntKind.wrap .i64 (r0.2.1 - r0.1)) else r2)))).bind fun r5 =>
          bif (!(r5.2 == 0)) then
            (sat_Add N r0.2.2.2.2.2 9223372036854775807).bind fun r6 =>
            some ((IntKind.wrap .i64 ((IntKind.wrap .i64 (r0.1 + (if (IntKind.wrap .i64 (r0.2.1 - r0.1)) < r2 then (IntKind.wrap .i64 (r0.2.1 - r0.1)) else r2))) + (if (IntKind.wrap .i64 (1073741824 - (IntKind.wrap .i64 (r0.1 + (if (IntKind.wrap .i64 (r0.2.1 - r0.1)) < r2 then (IntKind.wrap .i64 (r0.2.1 - r0.1)) else r2))))) < (if (IntKind.wrap .i64 (Int.tdiv (IntKind.wrap .i64 ((IntKind.wrap .i64 (r2 - (if (IntKind.wrap .i64 (r0.2.1 - r0.1)) < r2 then (IntKind.wrap .i64 (r0.2.1 - r0.1)) else r2))) + 1)) 2)) < (if 1073741824 < r6 then 1073741824 else r6) then (IntKind.wrap .i64 (Int.tdiv (IntKind.wrap .i64 ((IntKind.wrap .i64 (r2 - (if (IntKind.wrap .i64 (r0.2.1 - r0.1)) < r2 then (IntKind.wrap .i64 (r0.2.1 - r0.1)) else r2))) + 1)) 2)) else (if 1073741824 < r6 then 1073741824 else r6)) then (IntKind.wrap .i64 (1073741824 - (IntKind.wrap .i64 (r0.1 + (if (IntKind.wrap .i64 (r0.2.1 - r0.1)) < r2 then (IntKind.wrap .i64 (r0.2.1 - r0.1)) else r2))))) else (if (IntKind.wrap .i64 (Int.tdiv (IntKind.wrap .i64 ((IntKind.wrap .i64 (r2 - (if (IntKind.wrap .i64 (r0.2.1 - r0.1)) < r2 then (IntKind.wrap .i64 (r0.2.1 - r0.1)) else r2))) + 1)) 2)) < (if 1073741824 < r6 then 1073741824 else r6) then (IntKind.wrap .i64 (Int.tdiv (IntKind.wrap .i64 ((IntKind.wrap .i64 (r2 - (if (IntKind.wrap .i64 (r0.2.1 - r0.1)) < r2 then (IntKind.wrap .i64 (r0.2.1 - r0.1)) else r2))) + 1)) 2)) else (if 1073741824 < r6 then 1073741824 else r6))))), (r0.2.1, ((if (IntKind.wrap .i64 (r0.1 + (if (IntKind.wrap .i64 (r0.2.1 - r0.1)) < r2 then (IntKind.wrap .i64 (r0.2.1 - r0.1)) else r2))) > r0.2.2.1 then (IntKind.wrap .i64 (r0.1 + (if (IntKind.wrap .i64 (r0.2.1 - r0.1)) < r2 then (IntKind.wrap .i64 (r0.2.1 - r0.1)) else r2))) else r0.2.2.1), (r3, ((IntKind.wrap .i64 (r0.1 + (if (IntKind.wrap .i64 (r0.2.1 - r0.1)) < r2 then (IntKind.wrap .i64 (r0.2.1 - r0.1)) else r2))), (IntKind.wrap .i64 ((if 1073741824 < r6 then 1073741824 else r6) - (if (IntKind.wrap .i64 (1073741824 - (IntKind.wrap .i64 (r0.1 + (if (IntKind.wrap .i64 (r0.2.1 - r0.1)) < r2 then (IntKind.wrap .i64 (r0.2.1 - r0.1)) else r2))))) < (if (IntKind.wrap .i64 (Int.tdiv (IntKind.wrap .i64 ((IntKind.wrap .i64 (r2 - (if (IntKind.wrap .i64 (r0.2.1 - r0.1)) < r2 then (IntKind.wrap .i64 (r0.2.1 - r0.1)) else r2))) + 1)) 2)) < (if 1073741824 < r6 then 1073741824 else r6) then (IntKind.wrap .i64 (Int.tdiv (IntKind.wrap .i64 ((IntKind.wrap .i64 (r2 - (if (IntKind.wrap .i64 (r0.2.1 - r0.1)) < r2 then (IntKind.wrap .i64 (r0.2.1 - r0.1)) else r2))) + 1)) 2)) else (if 1073741824 < r6 then 1073741824 else r6)) then (IntKind.wrap .i64 (1073741824 - (IntKind.wrap .i64 (r0.1 + (if (IntKind.wrap .i64 (r0.2.1 - r0.1)) < r2 then (IntKind.wrap .i64 (r0.2.1 - r0.1)) else r2))))) else (if (IntKind.wrap .i64 (Int.tdiv (IntKind.wrap .i64 ((IntKind.wrap .i64 (r2 - (if (IntKind.wrap .i64 (r0.2.1 - r0.1)) < r2 then (IntKind.wrap .i64 (r0.2.1 - r0.1)) else r2))) + 1)) 2)) < (if 1073741824 < r6 then 1073741824 else r6) then (IntKind.wrap .i64 (Int.tdiv (IntKind.wrap .i64 ((IntKind.wrap .i64 (r2 - (if (IntKind.wrap .i64 (r0.2.1 - r0.1)) < r2 then (IntKind.wrap .i64 (r0.2.1 - r0.1)) else r2))) + 1)) 2)) else (if 1073741824 < r6 then 1073741824 else r6))))))))))
          else (sat_Add N r0.2.2.2.2.2 r5.1).bind fun r7 =>
          some ((IntKind.wrap .i64 ((IntKind.wrap .i64 (r0.1 + (if (IntKind.wrap .i64 (r0.2.1 - r0.1)) < r2 then (IntKind.wrap .i64 (r0.2.1 - r0.1)) else r2))) + (if (IntKind.wrap .i64 (1073741824 - (IntKind.wrap .i64 (r0.1 + (if (IntKind.wrap .i64 (r0.2.1 - r0.1)) < r2 then (IntKind.wrap .i64 (r0.2.1 - r0.1)) else r2))))) < (if (IntKind.wrap .i64 (Int.tdiv (IntKind.wrap .i64 ((IntKind.wrap .i64 (r2 - (if (IntKind.wrap .i64 (r0.2.1 - r0.1)) < r2 then (IntKind.wrap .i64 (r0.2.1 - r0.1)) else r2))) + 1)) 2)) < (if 1073741824 < r7 then 1073741824 else r7) then (IntKind.wrap .i64 (Int.tdiv (IntKind.wrap .i64 ((IntKind.wrap .i64 (r2 - (if (IntKind.wrap .i64 (r0.2.1 - r0.1)) < r2 then (IntKind.wrap .i64 (r0.2.1 - r0.1)) else r2))) + 1)) 2)) else (if 1073741824 < r7 then 1073741824 else r7)) then (IntKind.wrap .i64 (1073741824 - (IntKind.wrap .i64 (r0.1 + (if (IntKind.wrap .i64 (r0.2.1 - r0.1)) < r2 then (IntKind.wrap .i64 (r0.2.1 - r0.1)) else r2))))) else (if (IntKind.wrap .i64 (Int.tdiv (IntKind.wrap .i64 ((IntKind.wrap .i64 (r2 - (if (IntKind.wrap .i64 (r0.2.1 - r0.1)) < r2 then (IntKind.wrap .i64 (r0.2.1 - r0.1)) else r2))) + 1)) 2)) < (if 1073741824 < r7 then 1073741824 else r7) then (IntKind.wrap .i64 (Int.tdiv (IntKind.wrap .i64 ((IntKind.wrap .i64 (r2 - (if (IntKind.wrap .i64 (r0.2.1 - r0.1)) < r2 then (IntKind.wrap .i64 (r0.2.1 - r0.1)) else r2))) + 1)) 2)) else (if 1073741824 < r7 then 1073741824 else r7))))), (r0.2.1, ((if (IntKind.wrap .i64 (r0.1 + (if (IntKind.wrap .i64 (r0.2.1 - r0.1)) < r2 then (IntKind.wrap .i64 (r0.2.1 - r0.1)) else r2))) > r0.2.2.1 then (IntKind.wrap .i64 (r0.1 + (if (IntKind.wrap .i64 (r0.2.1 - r0.1)) < r2 then (IntKind.wrap .i64 (r0.2.1 - r0.1)) else r2))) else r0.2.2.1), (r3, ((IntKind.wrap .i64 (r0.1 + (if (IntKind.wrap .i64 (r0.2.1 - r0.1)) < r2 then (IntKind.wrap .i64 (r0.2.1 - r0.1)) else r2))), (IntKind.wrap .i64 ((if 1073741824 < r7 then 1073741824 else r7) - (if (IntKind.wrap .i64 (1073741824 - (IntKind.wrap .i64 (r0.1 + (if (IntKind.wrap .i64 (r0.2.1 - r0.1)) < r2 then (IntKind.wrap .i64 (r0.2.1 - r0.1)) else r2))))) < (if (IntKind.wrap .i64 (Int.tdiv (IntKind.wrap .i64 ((IntKind.wrap .i64 (r2 - (if (IntKind.wrap .i64 (r0.2.1 - r0.1)) < r2 then (IntKind.wrap .i64 (r0.2.1 - r0.1)) else r2))) + 1)) 2)) < (if 1073741824 < r7 then 1073741824 else r7) then (IntKind.wrap .i64 (Int.tdiv (IntKind.wrap .i64 ((IntKind.wrap .i64 (r2 - (if (IntKind.wrap .i64 (r0.2.1 - r0.1)) < r2 then (IntKind.wrap .i64 (r0.2.1 - r0.1)) else r2))) + 1)) 2)) else (if 1073741824 < r7 then 1073741824 else r7)) then (IntKind.wrap .i64 (1073741824 - (IntKind.wrap .i64 (r0.1 + (if (IntKind.wrap .i64 (r0.2.1 - r0.1)) < r2 then (IntKind.wrap .i64 (r0.2.1 - r0.1)) else r2))))) else (if (IntKind.wrap .i64 (Int.tdiv (IntKind.wrap .i64 ((IntKind.wrap .i64 (r2 - (if (IntKind.wrap .i64 (r0.2.1 - r0.1)) < r2 then (IntKind.wrap .i64 (r0.2.1 - r0.1)) else r2))) + 1)) 2)) < (if 1073741824 < r7 then 1073741824 else r7) then (IntKind.wrap .i64 (Int.tdiv (IntKind.wrap .i64 ((IntKind.wrap .i64 (r2 - (if (IntKind.wrap .i64 (r0.2.1 - r0.1)) < r2 then (IntKind.wrap .i64 (r0.2.1 - r0.1)) else r2))) + 1)) 2)) else (if 1073741824 < r7 then 1073741824 else r7))))))))))
        else (sat_Add N r0.2.2.2.2.2 (IntKind.wrap .i64 (Int.tdiv (IntKind.wrap .i64 ((IntKind.wrap .i64 (r2 - (if (IntKind.wrap .i64 (r0.2.1 - r0.1)) < r2 then (IntKind.wrap .i64 (r0.2.1 - r0.1)) else r2))) * r1)) (IntKind.wrap .i64 (100 * (IntKind.wrap .i64 (r0.1 + (if (IntKind.wrap .i64 (r0.2.1 - r0.1)) < r2 then (IntKind.wrap .i64 (r0.2.1 - r0.1)) else r2)))))))).bind fun r8 =>
        some ((IntKind.wrap .i64 ((IntKind.wrap .i64 (r0.1 + (if (IntKind.wrap .i64 (r0.2.1 - r0.1)) < r2 then (IntKind.wrap .i64 (r0.2.1 - r0.1)) else r2))) + (if (IntKind.wrap .i64 (1073741824 - (IntKind.wrap .i64 (r0.1 + (if (IntKind.wrap .i64 (r0.2.1 - r0.1)) < r2 then (IntKind.wrap .i64 (r0.2.1 - r0.1)) else r2))))) < (if (IntKind.wrap .i64 (Int.tdiv (IntKind.wrap .i64 ((IntKind.wrap .i64 (r2 - (if (IntKind.wrap .i64 (r0.2.1 - r0.1)) < r2 then (IntKind.wrap .i64 (r0.2.1 - r0.1)) else r2))) + 1)) 2)) < (if 1073741824 < r8 then 1073741824 else r8) then (IntKind.wrap .i64 (Int.tdiv (IntKind.wrap .i64 ((IntKind.wrap .i64 (r2 - (if (IntKind.wrap .i64 (r0.2.1 - r0.1)) < r2 then (IntKind.wrap .i64 (r0.2.1 - r0.1)) else r2))) + 1)) 2)) else (if 1073741824 < r8 then 1073741824 else r8)) then (IntKind.wrap .i64 (1073741824 - (IntKind.wrap .i64 (r0.1 + (if (IntKind.wrap .i64 (r0.2.1 - r0.1)) < r2 then (IntKind.wrap .i64 (r0.2.1 - r0.1)) else r2))))) else (if (IntKind.wrap .i64 (Int.tdiv (IntKind.wrap .i64 ((IntKind.wrap .i64 (r2 - (if (IntKind.wrap .i64 (r0.2.1 - r0.1)) < r2 then (IntKind.wrap .i64 (r0.2.1 - r0.1)) else r2))) + 1)) 2)) < (if 1073741824 < r8 then 1073741824 else r8) then (IntKind.wrap .i64 (Int.tdiv (IntKind.wrap .i64 ((IntKind.wrap .i64 (r2 - (if (IntKind.wrap .i64 (r0.2.1 - r0.1)) < r2 then (IntKind.wrap .i64 (r0.2.1 - r0.1)) else r2))) + 1)) 2)) else (if 1073741824 < r8 then 1073741824 else r8))))), (r0.2.1, ((if (IntKind.wrap .i64 (r0.1 + (if (IntKind.wrap .i64 (r0.2.1 - r0.1)) < r2 then (IntKind.wrap .i64 (r0.2.1 - r0.1)) else r2))) > r0.2.2.1 then (IntKind.wrap .i64 (r0.1 + (if (IntKind.wrap .i64 (r0.2.1 - r0.1)) < r2 then (IntKind.wrap .i64 (r0.2.1 - r0.1)) else r2))) else r0.2.2.1), (r3, ((IntKind.wrap .i64 (r0.1 + (if (IntKind.wrap .i64 (r0.2.1 - r0.1)) < r2 then (IntKind.wrap .i64 (r0.2.1 - r0.1)) else r2))), (IntKind.wrap .i64 ((if 1073741824 < r8 then 1073741824 else r8) - (if (IntKind.wrap .i64 (1073741824 - (IntKind.wrap .i64 (r0.1 + (if (IntKind.wrap .i64 (r0.2.1 - r0.1)) < r2 then (IntKind.wrap .i64 (r0.2.1 - r0.1)) else r2))))) < (if (IntKind.wrap .i64 (Int.tdiv (IntKind.wrap .i64 ((IntKind.wrap .i64 (r2 - (if (IntKind.wrap .i64 (r0.2.1 - r0.1)) < r2 then (IntKind.wrap .i64 (r0.2.1 - r0.1)) else r2))) + 1)) 2)) < (if 1073741824 < r8 then 1073741824 else r8) then (IntKind.wrap .i64 (Int.tdiv (IntKind.wrap .i64 ((IntKind.wrap .i64 (r2 - (if (IntKind.wrap .i64 (r0.2.1 - r0.1)) < r2 then (IntKind.wrap .i64 (r0.2.1 - r0.1)) else r2))) + 1)) 2)) else (if 1073741824 < r8 then 1073741824 else r8)) then (IntKind.wrap .i64 (1073741824 - (IntKind.wrap .i64 (r0.1 + (if (IntKind.wrap .i64 (r0.2.1 - r0.1)) < r2 then (IntKind.wrap .i64 (r0.2.1 - r0.1)) else r2))))) else (if (IntKind.wrap .i64 (Int.tdiv (IntKind.wrap .i64 ((IntKind.wrap .i64 (r2 - (if (IntKind.wrap .i64 (r0.2.1 - r0.1)) < r2 then (IntKind.wrap .i64 (r0.2.1 - r0.1)) else r2))) + 1)) 2)) < (if 1073741824 < r8 then 1073741824 else r8) then (IntKind.wrap .i64 (Int.tdiv (IntKind.wrap .i64 ((IntKind.wrap .i64 (r2 - (if (IntKind.wrap .i64 (r0.2.1 - r0.1)) < r2 then (IntKind.wrap .i64 (r0.2.1 - r0.1)) else r2))) + 1)) 2)) else (if 1073741824 < r8 then 1073741824 else r8))))))))))
      else none
    else bif (!(decide ((IntKind.wrap .i64 (100 * (IntKind.wrap .i64 (r0.1 + (if (IntKind.wrap .i64 (r0.2.1 - r0.1)) < r2 then (IntKind.wrap .i64 (r0.2.1 - r0.1)) else r2))))) = 0))) then
      (cubic_Target N ((IntKind.wrap .i64 (r0.1 + (if (IntKind.wrap .i64 (r0.2.1 - r0.1)) < r2 then (IntKind.wrap .i64 (r0.2.1 - r0.1)) else r2))), r0.2) a2 r1).bind fun r9 =>
      bif (decide ((IntKind.wrap .i64 (r0.1 + (if (IntKind.wrap .i64 (r0.2.1 - r0.1)) < r2 then (IntKind.wrap .i64 (r0.2.1 - r0.1)) else r2))) < r9)) then
        (wide_MulDiv N (IntKind.wrap .i64 (r9 - (IntKind.wrap .i64 (r0.1 + (if (IntKind.wrap .i64 (r0.2.1 - r0.1)) < r2 then (IntKind.wrap .i64 (r0.2.1 - r0.1)) else r2))))) (IntKind.wrap .i64 (r2 - (if (IntKind.wrap .i64 (r0.2.1 - r0.1)) < r2 then (IntKind.wrap .i64 (r0.2.1 - r0.1)) else r2))) (IntKind.wrap .i64 (r0.1 + (if (IntKind.wrap .i64 (r0.2.1 - r0.1)) < r2 then (IntKind.wrap .i64 (r0.2.1 - r0.1)) else r2)))).bind fun r10 =>
        bif (!(r10.2 == 0)) then
          (sat_Add N r0.2.2.2.2.2 9223372036854775807).bind fun r11 =>
          some ((IntKind.wrap .i64 ((IntKind.wrap .i64 (r0.1 + (if (IntKind.wrap .i64 (r0.2.1 - r0.1)) < r2 then (IntKind.wrap .i64 (r0.2.1 - r0.1)) else r2))) + (if (IntKind.wrap .i64 (1073741824 - (IntKind.wrap .i64 (r0.1 + (if (IntKind.wrap .i64 (r0.2.1 - r0.1)) < r2 then (IntKind.wrap .i64 (r0.2.1 - r0.1)) else r2))))) < (if (IntKind.wrap .i64 (Int.tdiv (IntKind.wrap .i64 ((IntKind.wrap .i64 (r2 - (if (IntKind.wrap .i64 (r0.2.1 - r0.1)) < r2 then (IntKind.wrap .i64 (r0.2.1 - r0.1)) else r2))) + 1)) 2)) < (if 1073741824 < r11 then 1073741824 else r11) then (IntKind.wrap .i64 (Int.tdiv (IntKind.wrap .i64 ((IntKind.wrap .i64 (r2 - (if (IntKind.wrap .i64 (r0.2.1 - r0.1)) < r2 then (IntKind.wrap .i64 (r0.2.1 - r0.1)) else r2))) + 1)) 2)) else (if 1073741824 < r11 then 1073741824 else r11)) then (IntKind.wrap .i64 (1073741824 - (IntKind.wrap .i64 (r0.1 + (if (IntKind.wrap .i64 (r0.2.1 - r0.1)) < r2 then (IntKind.wrap .i64 (r0.2.1 - r0.1)) else r2))))) else (if (IntKind.wrap .i64 (Int.tdiv (IntKind.wrap .i64 ((IntKind.wrap .i64 (r2 - (if (IntKind.wrap .i64 (r0.2.1 - r0.1)) < r2 then (IntKind.wrap .i64 (r0.2.1 - r0.1)) else r2))) + 1)) 2)) < (if 1073741824 < r11 then 1073741824 else r11) then (IntKind.wrap .i64 (Int.tdiv (IntKind.wrap .i64 ((IntKind.wrap .i64 (r2 - (if (IntKind.wrap .i64 (r0.2.1 - r0.1)) < r2 then (IntKind.wrap .i64 (r0.2.1 - r0.1)) else r2))) + 1)) 2)) else (if 1073741824 < r11 then 1073741824 else r11))))), (r0.2.1, (r0.2.2.1, (r0.2.2.2.1, (r0.2.2.2.2.1, (IntKind.wrap .i64 ((if 1073741824 < r11 then 1073741824 else r11) - (if (IntKind.wrap .i64 (1073741824 - (IntKind.wrap .i64 (r0.1 + (if (IntKind.wrap .i64 (r0.2.1 - r0.1)) < r2 then (IntKind.wrap .i64 (r0.2.1 - r0.1)) else r2))))) < (if (IntKind.wrap .i64 (Int.tdiv (IntKind.wrap .i64 ((IntKind.wrap .i64 (r2 - (if (IntKind.wrap .i64 (r0.2.1 - r0.1)) < r2 then (IntKind.wrap .i64 (r0.2.1 - r0.1)) else r2))) + 1)) 2)) < (if 1073741824 < r11 then 1073741824 else r11) then (IntKind.wrap .i64 (Int.tdiv (IntKind.wrap .i64 ((IntKind.wrap .i64 (r2 - (if (IntKind.wrap .i64 (r0.2.1 - r0.1)) < r2 then (IntKind.wrap .i64 (r0.2.1 - r0.1)) else r2))) + 1)) 2)) else (if 1073741824 < r11 then 1073741824 else r11)) then (IntKind.wrap .i64 (1073741824 - (IntKind.wrap .i64 (r0.1 + (if (IntKind.wrap .i64 (r0.2.1 - r0.1)) < r2 then (IntKind.wrap .i64 (r0.2.1 - r0.1)) else r2))))) else (if (IntKind.wrap .i64 (Int.tdiv (IntKind.wrap .i64 ((IntKind.wrap .i64 (r2 - (if (IntKind.wrap .i64 (r0.2.1 - r0.1)) < r2 then (IntKind.wrap .i64 (r0.2.1 - r0.1)) else r2))) + 1)) 2)) < (if 1073741824 < r11 then 1073741824 else r11) then (IntKind.wrap .i64 (Int.tdiv (IntKind.wrap .i64 ((IntKind.wrap .i64 (r2 - (if (IntKind.wrap .i64 (r0.2.1 - r0.1)) < r2 then (IntKind.wrap .i64 (r0.2.1 - r0.1)) else r2))) + 1)) 2)) else (if 1073741824 < r11 then 1073741824 else r11))))))))))
        else (sat_Add N r0.2.2.2.2.2 r10.1).bind fun r12 =>
        some ((IntKind.wrap .i64 ((IntKind.wrap .i64 (r0.1 + (if (IntKind.wrap .i64 (r0.2.1 - r0.1)) < r2 then (IntKind.wrap .i64 (r0.2.1 - r0.1)) else r2))) + (if (IntKind.wrap .i64 (1073741824 - (IntKind.wrap .i64 (r0.1 + (if (IntKind.wrap .i64 (r0.2.1 - r0.1)) < r2 then (IntKind.wrap .i64 (r0.2.1 - r0.1)) else r2))))) < (if (IntKind.wrap .i64 (Int.tdiv (IntKind.wrap .i64 ((IntKind.wrap .i64 (r2 - (if (IntKind.wrap .i64 (r0.2.1 - r0.1)) < r2 then (IntKind.wrap .i64 (r0.2.1 - r0.1)) else r2))) + 1)) 2)) < (if 1073741824 < r12 then 1073741824 else r12) then (IntKind.wrap .i64 (Int.tdiv (IntKind.wrap .i64 ((IntKind.wrap .i64 (r2 - (if (IntKind.wrap .i64 (r0.2.1 - r0.1)) < r2 then (IntKind.wrap .i64 (r0.2.1 - r0.1)) else r2))) + 1)) 2)) else (if 1073741824 < r12 then 1073741824 else r12)) then (IntKind.wrap .i64 (1073741824 - (IntKind.wrap .i64 (r0.1 + (if (IntKind.wrap .i64 (r0.2.1 - r0.1)) < r2 then (IntKind.wrap .i64 (r0.2.1 - r0.1)) else r2))))) else (if (IntKind.wrap .i64 (Int.tdiv (IntKind.wrap .i64 ((IntKind.wrap .i64 (r2 - (if (IntKind.wrap .i64 (r0.2.1 - r0.1)) < r2 then (IntKind.wrap .i64 (r0.2.1 - r0.1)) else r2))) + 1)) 2)) < (if 1073741824 < r12 then 1073741824 else r12) then (IntKind.wrap .i64 (Int.tdiv (IntKind.wrap .i64 ((IntKind.wrap .i64 (r2 - (if (IntKind.wrap .i64 (r0.2.1 - r0.1)) < r2 then (IntKind.wrap .i64 (r0.2.1 - r0.1)) else r2))) + 1)) 2)) else (if 1073741824 < r12 then 1073741824 else r12))))), (r0.2.1, (r0.2.2.1, (r0.2.2.2.1, (r0.2.2.2.2.1, (IntKind.wrap .i64 ((if 1073741824 < r12 then 1073741824 else r12) - (if (IntKind.wrap .i64 (1073741824 - (IntKind.wrap .i64 (r0.1 + (if (IntKind.wrap .i64 (r0.2.1 - r0.1)) < r2 then (IntKind.wrap .i64 (r0.2.1 - r0.1)) else r2))))) < (if (IntKind.wrap .i64 (Int.tdiv (IntKind.wrap .i64 ((IntKind.wrap .i64 (r2 - (if (IntKind.wrap .i64 (r0.2.1 - r0.1)) < r2 then (IntKind.wrap .i64 (r0.2.1 - r0.1)) else r2))) + 1)) 2)) < (if 1073741824 < r12 then 1073741824 else r12) then (IntKind.wrap .i64 (Int.tdiv (IntKind.wrap .i64 ((IntKind.wrap .i64 (r2 - (if (IntKind.wrap .i64 (r0.2.1 - r0.1)) < r2 then (IntKind.wrap .i64 (r0.2.1 - r0.1)) else r2))) + 1)) 2)) else (if 1073741824 < r12 then 1073741824 else r12)) then (IntKind.wrap .i64 (1073741824 - (IntKind.wrap .i64 (r0.1 + (if (IntKind.wrap .i64 (r0.2.1 - r0.1)) < r2 then (IntKind.wrap .i64 (r0.2.1 - r0.1)) else r2))))) else (if (IntKind.wrap .i64 (Int.tdiv (IntKind.wrap .i64 ((IntKind.wrap .i64 (r2 - (if (IntKind.wrap .i64 (r0.2.1 - r0.1)) < r2 then (IntKind.wrap .i64 (r0.2.1 - r0.1)) else r2))) + 1)) 2)) < (if 1073741824 < r12 then 1073741824 else r12) then (IntKind.wrap .i64 (Int.tdiv (IntKind.wrap .i64 ((IntKind.wrap .i64 (r2 - (if (IntKind.wrap .i64 (r0.2.1 - r0.1)) < r2 then (IntKind.wrap .i64 (r0.2.1 - r0.1)) else r2))) + 1)) 2)) else (if 1073741824 < r12 then 1073741824 else r12))))))))))
      else (sat_Add N r0.2.2.2.2.2 (IntKind.wrap .i64 (Int.tdiv (IntKind.wrap .i64 ((IntKind.wrap .i64 (r2 - (if (IntKind.wrap .i64 (r0.2.1 - r0.1)) < r2 then (IntKind.wrap .i64 (r0.2.1 - r0.1)) else r2))) * r1)) (IntKind.wrap .i64 (100 * (IntKind.wrap .i64 (r0.1 + (if (IntKind.wrap .i64 (r0.2.1 - r0.1)) < r2 then (IntKind.wrap .i64 (r0.2.1 - r0.1)) else r2)))))))).bind fun r13 =>
      some ((IntKind.wrap .i64 ((IntKind.wrap .i64 (r0.1 + (if (IntKind.wrap .i64 (r0.2.1 - r0.1)) < r2 then (IntKind.wrap .i64 (r0.2.1 - r0.1)) else r2))) + (if (IntKind.wrap .i64 (1073741824 - (IntKind.wrap .i64 (r0.1 + (if (IntKind.wrap .i64 (r0.2.1 - r0.1)) < r2 then (IntKind.wrap .i64 (r0.2.1 - r0.1)) else r2))))) < (if (IntKind.wrap .i64 (Int.tdiv (IntKind.wrap .i64 ((IntKind.wrap .i64 (r2 - (if (IntKind.wrap .i64 (r0.2.1 - r0.1)) < r2 then (IntKind.wrap .i64 (r0.2.1 - r0.1)) else r2))) + 1)) 2)) < (if 1073741824 < r13 then 1073741824 else r13) then (IntKind.wrap .i64 (Int.tdiv (IntKind.wrap .i64 ((IntKind.wrap .i64 (r2 - (if (IntKind.wrap .i64 (r0.2.1 - r0.1)) < r2 then (IntKind.wrap .i64 (r0.2.1 - r0.1)) else r2))) + 1)) 2)) else (if 1073741824 < r13 then 1073741824 else r13)) then (IntKind.wrap .i64 (1073741824 - (IntKind.wrap .i64 (r0.1 + (if (IntKind.wrap .i64 (r0.2.1 - r0.1)) < r2 then (IntKind.wrap .i64 (r0.2.1 - r0.1)) else r2))))) else (if (IntKind.wrap .i64 (Int.tdiv (IntKind.wrap .i64 ((IntKind.wrap .i64 (r2 - (if (IntKind.wrap .i64 (r0.2.1 - r0.1)) < r2 then (IntKind.wrap .i64 (r0.2.1 - r0.1)) else r2))) + 1)) 2)) < (if 1073741824 < r13 then 1073741824 else r13) then (IntKind.wrap .i64 (Int.tdiv (IntKind.wrap .i64 ((IntKind.wrap .i64 (r2 - (if (IntKind.wrap .i64 (r0.2.1 - r0.1)) < r2 then (IntKind.wrap .i64 (r0.2.1 - r0.1)) else r2))) + 1)) 2)) else (if 1073741824 < r13 then 1073741824 else r13))))), (r0.2.1, (r0.2.2.1, (r0.2.2.2.1, (r0.2.2.2.2.1, (IntKind.wrap .i64 ((if 1073741824 < r13 then 1073741824 else r13) - (if (IntKind.wrap .i64 (1073741824 - (IntKind.wrap .i64 (r0.1 + (if (IntKind.wrap .i64 (r0.2.1 - r0.1)) < r2 then (IntKind.wrap .i64 (r0.2.1 - r0.1)) else r2))))) < (if (IntKind.wrap .i64 (Int.tdiv (IntKind.wrap .i64 ((IntKind.wrap .i64 (r2 - (if (IntKind.wrap .i64 (r0.2.1 - r0.1)) < r2 then (IntKind.wrap .i64 (r0.2.1 - r0.1)) else r2))) + 1)) 2)) < (if 1073741824 < r13 then 1073741824 else r13) then (IntKind.wrap .i64 (Int.tdiv (IntKind.wrap .i64 ((IntKind.wrap .i64 (r2 - (if (IntKind.wrap .i64 (r0.2.1 - r0.1)) < r2 then (IntKind.wrap .i64 (r0.2.1 - r0.1)) else r2))) + 1)) 2)) else (if 1073741824 < r13 then 1073741824 else r13)) then (IntKind.wrap .i64 (1073741824 - (IntKind.wrap .i64 (r0.1 + (if (IntKind.wrap .i64 (r0.2.1 - r0.1)) < r2 then (IntKind.wrap .i64 (r0.2.1 - r0.1)) else r2))))) else (if (IntKind.wrap .i64 (Int.tdiv (IntKind.wrap .i64 ((IntKind.wrap .i64 (r2 - (if (IntKind.wrap .i64 (r0.2.1 - r0.1)) < r2 then (IntKind.wrap .i64 (r0.2.1 - r0.1)) else r2))) + 1)) 2)) < (if 1073741824 < r13 then 1073741824 else r13) then (IntKind.wrap .i64 (Int.tdiv (IntKind.wrap .i64 ((IntKind.wrap .i64 (r2 - (if (IntKind.wrap .i64 (r0.2.1 - r0.1)) < r2 then (IntKind.wrap .i64 (r0.2.1 - r0.1)) else r2))) + 1)) 2)) else (if 1073741824 < r13 then 1073741824 else r13))))))))))
    else none
  else bif (r2 == 0) then
    some r0
  else bif (decide (r0.2.2.2.1 < 0)) then
    (sat_Clamp N a2 0 1125899906842624).bind fun r14 =>
    bif (!(decide ((IntKind.wrap .i64 (100 * r0.1)) = 0))) then
      (cubic_Target N (r0.1, (r0.2.1, ((if r0.1 > r0.2.2.1 then r0.1 else r0.2.2.1), (r14, (r0.1, r0.2.2.2.2.2))))) a2 r1).bind fun r15 =>
      bif (decide (r0.1 < r15)) then
        (wide_MulDiv N (IntKind.wrap .i64 (r15 - r0.1)) r2 r0.1).bind fun r16 =>
        bif (!(r16.2 == 0)) then
          (sat_Add N r0.2.2.2.2.2 9223372036854775807).bind fun r17 =>
          some ((IntKind.wrap .i64 (r0.1 + (if (IntKind.wrap .i64 (1073741824 - r0.1)) < (if (IntKind.wrap .i64 (Int.tdiv (IntKind.wrap .i64 (r2 + 1)) 2)) < (if 1073741824 < r17 then 1073741824 else r17) then (IntKind.wrap .i64 (Int.tdiv (IntKind.wrap .i64 (r2 + 1)) 2)) else (if 1073741824 < r17 then 1073741824 else r17)) then (IntKind.wrap .i64 (1073741824 - r0.1)) else (if (IntKind.wrap .i64 (Int.tdiv (IntKind.wrap .i64 (r2 + 1)) 2)) < (if 1073741824 < r17 then 1073741824 else r17) then (IntKind.wrap .i64 (Int.tdiv (IntKind.wrap .i64 (r2 + 1)) 2)) else (if 1073741824 < r17 then 1073741824 else r17))))), (r0.2.1, ((if r0.1 > r0.2.2.1 then r0.1 else r0.2.2.1), (r14, (r0.1, (IntKind.wrap .i64 ((if 1073741824 < r17 then 1073741824 else r17) - (if (IntKind.wrap .i64 (1073741824 - r0.1)) < (if (IntKind.wrap .i64 (Int.tdiv (IntKind.wrap .i64 (r2 + 1)) 2)) < (if 1073741824 < r17 then 1073741824 else r17) then (IntKind.wrap .i64 (Int.tdiv (IntKind.wrap .i64 (r2 + 1)) 2)) else (if 1073741824 < r17 then 1073741824 else r17)) then (IntKind.wrap .i64 (1073741824 - r0.1)) else (if (IntKind.wrap .i64 (Int.tdiv (IntKind.wrap .i64 (r2 + 1)) 2)) < (if 1073741824 < r17 then 1073741824 else r17) then (IntKind.wrap .i64 (Int.tdiv (IntKind.wrap .i64 (r2 + 1)) 2)) else (if 1073741824 < r17 then 1073741824 else r17))))))))))
        else (sat_Add N r0.2.2.2.2.2 r16.1).bind fun r18 =>
        some ((IntKind.wrap .i64 (r0.1 + (if (IntKind.wrap .i64 (1073741824 - r0.1)) < (if (IntKind.wrap .i64 (Int.tdiv (IntKind.wrap .i64 (r2 + 1)) 2)) < (if 1073741824 < r18 then 1073741824 else r18) then (IntKind.wrap .i64 (Int.tdiv (IntKind.wrap .i64 (r2 + 1)) 2)) else (if 1073741824 < r18 then 1073741824 else r18)) then (IntKind.wrap .i64 (1073741824 - r0.1)) else (if (IntKind.wrap .i64 (Int.tdiv (IntKind.wrap .i64 (r2 + 1)) 2)) < (if 1073741824 < r18 then 1073741824 else r18) then (IntKind.wrap .i64 (Int.tdiv (IntKind.wrap .i64 (r2 + 1)) 2)) else (if 1073741824 < r18 then 1073741824 else r18))))), (r0.2.1, ((if r0.1 > r0.2.2.1 then r0.1 else r0.2.2.1), (r14, (r0.1, (IntKind.wrap .i64 ((if 1073741824 < r18 then 1073741824 else r18) - (if (IntKind.wrap .i64 (1073741824 - r0.1)) < (if (IntKind.wrap .i64 (Int.tdiv (IntKind.wrap .i64 (r2 + 1)) 2)) < (if 1073741824 < r18 then 1073741824 else r18) then (IntKind.wrap .i64 (Int.tdiv (IntKind.wrap .i64 (r2 + 1)) 2)) else (if 1073741824 < r18 then 1073741824 else r18)) then (IntKind.wrap .i64 (1073741824 - r0.1)) else (if (IntKind.wrap .i64 (Int.tdiv (IntKind.wrap .i64 (r2 + 1)) 2)) < (if 1073741824 < r18 then 1073741824 else r18) then (IntKind.wrap .i64 (Int.tdiv (IntKind.wrap .i64 (r2 + 1)) 2)) else (if 1073741824 < r18 then 1073741824 else r18))))))))))
      else (sat_Add N r0.2.2.2.2.2 (IntKind.wrap .i64 (Int.tdiv (IntKind.wrap .i64 (r2 * r1)) (IntKind.wrap .i64 (100 * r0.1))))).bind fun r19 =>
      some ((IntKind.wrap .i64 (r0.1 + (if (IntKind.wrap .i64 (1073741824 - r0.1)) < (if (IntKind.wrap .i64 (Int.tdiv (IntKind.wrap .i64 (r2 + 1)) 2)) < (if 1073741824 < r19 then 1073741824 else r19) then (IntKind.wrap .i64 (Int.tdiv (IntKind.wrap .i64 (r2 + 1)) 2)) else (if 1073741824 < r19 then 1073741824 else r19)) then (IntKind.wrap .i64 (1073741824 - r0.1)) else (if (IntKind.wrap .i64 (Int.tdiv (IntKind.wrap .i64 (r2 + 1)) 2)) < (if 1073741824 < r19 then 1073741824 else r19) then (IntKind.wrap .i64 (Int.tdiv (IntKind.wrap .i64 (r2 + 1)) 2)) else (if 1073741824 < r19 then 1073741824 else r19))))), (r0.2.1, ((if r0.1 > r0.2.2.1 then r0.1 else r0.2.2.1), (r14, (r0.1, (IntKind.wrap .i64 ((if 1073741824 < r19 then 1073741824 else r19) - (if (IntKind.wrap .i64 (1073741824 - r0.1)) < (if (IntKind.wrap .i64 (Int.tdiv (IntKind.wrap .i64 (r2 + 1)) 2)) < (if 1073741824 < r19 then 1073741824 else r19) then (IntKind.wrap .i64 (Int.tdiv (IntKind.wrap .i64 (r2 + 1)) 2)) else (if 1073741824 < r19 then 1073741824 else r19)) then (IntKind.wrap .i64 (1073741824 - r0.1)) else (if (IntKind.wrap .i64 (Int.tdiv (IntKind.wrap .i64 (r2 + 1)) 2)) < (if 1073741824 < r19 then 1073741824 else r19) then (IntKind.wrap .i64 (Int.tdiv (IntKind.wrap .i64 (r2 + 1)) 2)) else (if 1073741824 < r19 then 1073741824 else r19))))))))))
    else none
  else bif (!(decide ((IntKind.wrap .i64 (100 * r0.1)) = 0))) then
    (cubic_Target N r0 a2 r1).bind fun r20 =>
    bif (decide (r0.1 < r20)) then
      (wide_MulDiv N (IntKind.wrap .i64 (r20 - r0.1)) r2 r0.1).bind fun r21 =>
      bif (!(r21.2 == 0)) then
        (sat_Add N r0.2.2.2.2.2 9223372036854775807).bind fun r22 =>
        some ((IntKind.wrap .i64 (r0.1 + (if (IntKind.wrap .i64 (1073741824 - r0.1)) < (if (IntKind.wrap .i64 (Int.tdiv (IntKind.wrap .i64 (r2 + 1)) 2)) < (if 1073741824 < r22 then 1073741824 else r22) then (IntKind.wrap .i64 (Int.tdiv (IntKind.wrap .i64 (r2 + 1)) 2)) else (if 1073741824 < r22 then 1073741824 else r22)) then (IntKind.wrap .i64 (1073741824 - r0.1)) else (if (IntKind.wrap .i64 (Int.tdiv (IntKind.wrap .i64 (r2 + 1)) 2)) < (if 1073741824 < r22 then 1073741824 else r22) then (IntKind.wrap .i64 (Int.tdiv (IntKind.wrap .i64 (r2 + 1)) 2)) else (if 1073741824 < r22 then 1073741824 else r22))))), (r0.2.1, (r0.2.2.1, (r0.2.2.2.1, (r0.2.2.2.2.1, (IntKind.wrap .i64 ((if 1073741824 < r22 then 1073741824 else r22) - (if (IntKind.wrap .i64 (1073741824 - r0.1)) < (if (IntKind.wrap .i64 (Int.tdiv (IntKind.wrap .i64 (r2 + 1)) 2)) < (if 1073741824 < r22 then 1073741824 else r22) then (IntKind.wrap .i64 (Int.tdiv (IntKind.wrap .i64 (r2 + 1)) 2)) else (if 1073741824 < r22 then 1073741824 else r22)) then (IntKind.wrap .i64 (1073741824 - r0.1)) else (if (IntKind.wrap .i64 (Int.tdiv (IntKind.wrap .i64 (r2 + 1)) 2)) < (if 1073741824 < r22 then 1073741824 else r22) then (IntKind.wrap .i64 (Int.tdiv (IntKind.wrap .i64 (r2 + 1)) 2)) else (if 1073741824 < r22 then 1073741824 else r22))))))))))
      else (sat_Add N r0.2.2.2.2.2 r21.1).bind fun r23 =>
      some ((IntKind.wrap .i64 (r0.1 + (if (IntKind.wrap .i64 (1073741824 - r0.1)) < (if (IntKind.wrap .i64 (Int.tdiv (IntKind.wrap .i64 (r2 + 1)) 2)) < (if 1073741824 < r23 then 1073741824 else r23) then (IntKind.wrap .i64 (Int.tdiv (IntKind.wrap .i64 (r2 + 1)) 2)) else (if 1073741824 < r23 then 1073741824 else r23)) then (IntKind.wrap .i64 (1073741824 - r0.1)) else (if (IntKind.wrap .i64 (Int.tdiv (IntKind.wrap .i64 (r2 + 1)) 2)) < (if 1073741824 < r23 then 1073741824 else r23) then (IntKind.wrap .i64 (Int.tdiv (IntKind.wrap .i64 (r2 + 1)) 2)) else (if 1073741824 < r23 then 1073741824 else r23))))), (r0.2.1, (r0.2.2.1, (r0.2.2.2.1, (r0.2.2.2.2.1, (IntKind.wrap .i64 ((if 1073741824 < r23 then 1073741824 else r23) - (if (IntKind.wrap .i64 (1073741824 - r0.1)) < (if (IntKind.wrap .i64 (Int.tdiv (IntKind.wrap .i64 (r2 + 1)) 2)) < (if 1073741824 < r23 then 1073741824 else r23) then (IntKind.wrap .i64 (Int.tdiv (IntKind.wrap .i64 (r2 + 1)) 2)) else (if 1073741824 < r23 then 1073741824 else r23)) then (IntKind.wrap .i64 (1073741824 - r0.1)) else (if (IntKind.wrap .i64 (Int.tdiv (IntKind.wrap .i64 (r2 + 1)) 2)) < (if 1073741824 < r23 then 1073741824 else r23) then (IntKind.wrap .i64 (Int.tdiv (IntKind.wrap .i64 (r2 + 1)) 2)) else (if 1073741824 < r23 then 1073741824 else r23))))))))))
    else (sat_Add N r0.2.2.2.2.2 (IntKind.wrap .i64 (Int.tdiv (IntKind.wrap .i64 (r2 * r1)) (IntKind.wrap .i64 (100 * r0.1))))).bind fun r24 =>
    some ((IntKind.wrap .i64 (r0.1 + (if (IntKind.wrap .i64 (1073741824 - r0.1)) < (if (IntKind.wrap .i64 (Int.tdiv (IntKind.wrap .i64 (r2 + 1)) 2)) < (if 1073741824 < r24 then 1073741824 else r24) then (IntKind.wrap .i64 (Int.tdiv (IntKind.wrap .i64 (r2 + 1)) 2)) else (if 1073741824 < r24 then 1073741824 else r24)) then (IntKind.wrap .i64 (1073741824 - r0.1)) else (if (IntKind.wrap .i64 (Int.tdiv (IntKind.wrap .i64 (r2 + 1)) 2)) < (if 1073741824 < r24 then 1073741824 else r24) then (IntKind.wrap .i64 (Int.tdiv (IntKind.wrap .i64 (r2 + 1)) 2)) else (if 1073741824 < r24 then 1073741824 else r24))))), (r0.2.1, (r0.2.2.1, (r0.2.2.2.1, (r0.2.2.2.2.1, (IntKind.wrap .i64 ((if 1073741824 < r24 then 1073741824 else r24) - (if (IntKind.wrap .i64 (1073741824 - r0.1)) < (if (IntKind.wrap .i64 (Int.tdiv (IntKind.wrap .i64 (r2 + 1)) 2)) < (if 1073741824 < r24 then 1073741824 else r24) then (IntKind.wrap .i64 (Int.tdiv (IntKind.wrap .i64 (r2 + 1)) 2)) else (if 1073741824 < r24 then 1073741824 else r24)) then (IntKind.wrap .i64 (1073741824 - r0.1)) else (if (IntKind.wrap .i64 (Int.tdiv (IntKind.wrap .i64 (r2 + 1)) 2)) < (if 1073741824 < r24 then 1073741824 else r24) then (IntKind.wrap .i64 (Int.tdiv (IntKind.wrap .i64 (r2 + 1)) 2)) else (if 1073741824 < r24 then 1073741824 else r24))))))))))
  else none
def leatref49_Hear (N : Nat) (a0 : (Int × (Int × (Int × (Int × (Int × Int)))))) (a1 : Int) (a2 : Int) (a3 : Int) : Option (Int × (Int × (Int × (Int × (Int × Int))))) :=
  (leatref49_Within N a0 a3).bind fun r0 =>
  (leatref49_keep N a1 0 16777216).bind fun r1 =>
  bif (decide (r0.1 < r0.2.1)) then
    bif ((IntKind.wrap .i64 (r1 - (if (IntKind.wrap .i64 (r0.2.1 - r0.1)) < r1 then (IntKind.wrap .i64 (r0.2.1 - r0.1)) else r1))) == 0) then
      some ((IntKind.wrap .i64 (r0.1 + (if (IntKind.wrap .i64 (r0.2.1 - r0.1)) < r1 then (IntKind.wrap .i64 (r0.2.1 - r0.1)) else r1))), r0.2)
    else bif (r0.2.2.2.1 == (-1)) then
      (leatref49_keep N a2 0 1125899906842624).bind fun r2 =>
      bif (decide (r0.2.2.1 < (IntKind.wrap .i64 (r0.1 + (if (IntKind.wrap .i64 (r0.2.1 - r0.1)) < r1 then (IntKind.wrap .i64 (r0.2.1 - r0.1)) else r1))))) then
        (leatref49_Target N ((IntKind.wrap .i64 (r0.1 + (if (IntKind.wrap .i64 (r0.2.1 - r0.1)) < r1 then (IntKind.wrap .i64 (r0.2.1 - r0.1)) else r1))), (r0.2.1, ((IntKind.wrap .i64 (r0.1 + (if (IntKind.wrap .i64 (r0.2.1 - r0.1)) < r1 then (IntKind.wrap .i64 (r0.2.1 - r0.1)) else r1))), (r2, ((IntKind.wrap .i64 (r0.1 + (if (IntKind.wrap .i64 (r0.2.1 - r0.1)) < r1 then (IntKind.wrap .i64 (r0.2.1 - r0.1)) else r1))), r0.2.2.2.2.2))))) a2 a3).bind fun r3 =>
        bif (decide ((IntKind.wrap .i64 (r0.1 + (if (IntKind.wrap .i64 (r0.2.1 - r0.1)) < r1 then (IntKind.wrap .i64 (r0.2.1 - r0.1)) else r1))) < r3)) then
          (leatref02_MulDiv N (IntKind.wrap .i64 (r3 - (IntKind.wrap .i64 (r0.1 + (if (IntKind.wrap .i64 (r0.2.1 - r0.1)) < r1 then (IntKind.wrap .i64 (r0.2.1 - r0.1)) else r1))))) (IntKind.wrap .i64 (r1 - (if (IntKind.wrap .i64 (r0.2.1 - r0.1)) < r1 then (IntKind.wrap .i64 (r0.2.1 - r0.1)) else r1))) (IntKind.wrap .i64 (r0.1 + (if (IntKind.wrap .i64 (r0.2.1 - r0.1)) < r1 then (IntKind.wrap .i64 (r0.2.1 - r0.1)) else r1))) false).bind fun r4 =>
          bif (decide ((IntKind.wrap .i64 (Int.tdiv (IntKind.wrap .i64 ((IntKind.wrap .i64 (r1 - (if (IntKind.wrap .i64 (r0.2.1 - r0.1)) < r1 then (IntKind.wrap .i64 (r0.2.1 - r0.1)) else r1))) + 1)) 2)) < (if 1073741824 < (IntKind.wrap .i64 (r0.2.2.2.2.2 + r4.1)) then 1073741824 else (IntKind.wrap .i64 (r0.2.2.2.2.2 + r4.1))))) then
            bif (decide ((IntKind.wrap .i64 (1073741824 - (IntKind.wrap .i64 (r0.1 + (if (IntKind.wrap .i64 (r0.2.1 - r0.1)) < r1 then (IntKind.wrap .i64 (r0.2.1 - r0.1)) else r1))))) < (IntKind.wrap .i64 (Int.tdiv (IntKind.wrap .i64 ((IntKind.wrap .i64 (r1 - (if (IntKind.wrap .i64 (r0.2.1 - r0.1)) < r1 then (IntKind.wrap .i64 (r0.2.1 - r0.1)) else r1))) + 1)) 2)))) then
              some ((IntKind.wrap .i64 ((IntKind.wrap .i64 (r0.1 + (if (IntKind.wrap .i64 (r0.2.1 - r0.1)) < r1 then (IntKind.wrap .i64 (r0.2.1 - r0.1)) else r1))) + (IntKind.wrap .i64 (1073741824 - (IntKind.wrap .i64 (r0.1 + (if (IntKind.wrap .i64 (r0.2.1 - r0.1)) < r1 then (IntKind.wrap .i64 (r0.2.1 - r0.1)) else r1))))))), (r0.2.1, ((IntKind.wrap .i64 (r0.1 + (if (IntKind.wrap .i64 (r0.2.1 - r0.1)) < r1 then (IntKind.wrap .i64 (r0.2.1 - r0.1)) else r1))), (r2, ((IntKind.wrap .i64 (r0.1 + (if (IntKind.wrap .i64 (r0.2.1 - r0.1)) < r1 then (IntKind.wrap .i64 (r0.2.1 - r0.1)) else r1))), (IntKind.wrap .i64 ((if 1073741824 < (IntKind.wrap .i64 (r0.2.2.2.2.2 + r4.1)) then 1073741824 else (IntKind.wrap .i64 (r0.2.2.2.2.2 + r4.1))) - (IntKind.wrap .i64 (1073741824 - (IntKind.wrap .i64 (r0.1 + (if (IntKind.wrap .i64 (r0.2.1 - r0.1)) < r1 then (IntKind.wrap .i64 (r0.2.1 - r0.1)) else r1))))))))))))
            else some ((IntKind.wrap .i64 ((IntKind.wrap .i64 (r0.1 + (if (IntKind.wrap .i64 (r0.2.1 - r0.1)) < r1 then (IntKind.wrap .i64 (r0.2.1 - r0.1)) else r1))) + (IntKind.wrap .i64 (Int.tdiv (IntKind.wrap .i64 ((IntKind.wrap .i64 (r1 - (if (IntKind.wrap .i64 (r0.2.1 - r0.1)) < r1 then (IntKind.wrap .i64 (r0.2.1 - r0.1)) else r1))) + 1)) 2)))), (r0.2.1, ((IntKind.wrap .i64 (r0.1 + (if (IntKind.wrap .i64 (r0.2.1 - r0.1)) < r1 then (IntKind.wrap .i64 (r0.2.1 - r0.1)) else r1))), (r2, ((IntKind.wrap .i64 (r0.1 + (if (IntKind.wrap .i64 (r0.2.1 - r0.1)) < r1 then (IntKind.wrap .i64 (r0.2.1 - r0.1)) else r1))), (IntKind.wrap .i64 ((if 1073741824 < (IntKind.wrap .i64 (r0.2.2.2.2.2 + r4.1)) then 1073741824 else (IntKind.wrap .i64 (r0.2.2.2.2.2 + r4.1))) - (IntKind.wrap .i64 (Int.tdiv (IntKind.wrap .i64 ((IntKind.wrap .i64 (r1 - (if (IntKind.wrap .i64 (r0.2.1 - r0.1)) < r1 then (IntKind.wrap .i64 (r0.2.1 - r0.1)) else r1))) + 1)) 2)))))))))
          else bif (decide ((IntKind.wrap .i64 (1073741824 - (IntKind.wrap .i64 (r0.1 + (if (IntKind.wrap .i64 (r0.2.1 - r0.1)) < r1 then (IntKind.wrap .i64 (r0.2.1 - r0.1)) else r1))))) < (if 1073741824 < (IntKind.wrap .i64 (r0.2.2.2.2.2 + r4.1)) then 1073741824 else (IntKind.wrap .i64 (r0.2.2.2.2.2 + r4.1))))) then
            some ((IntKind.wrap .i64 ((IntKind.wrap .i64 (r0.1 + (if (IntKind.wrap .i64 (r0.2.1 - r0.1)) < r1 then (IntKind.wrap .i64 (r0.2.1 - r0.1)) else r1))) + (IntKind.wrap .i64 (1073741824 - (IntKind.wrap .i64 (r0.1 + (if (IntKind.wrap .i64 (r0.2.1 - r0.1)) < r1 then (IntKind.wrap .i64 (r0.2.1 - r0.1)) else r1))))))), (r0.2.1, ((IntKind.wrap .i64 (r0.1 + (if (IntKind.wrap .i64 (r0.2.1 - r0.1)) < r1 then (IntKind.wrap .i64 (r0.2.1 - r0.1)) else r1))), (r2, ((IntKind.wrap .i64 (r0.1 + (if (IntKind.wrap .i64 (r0.2.1 - r0.1)) < r1 then (IntKind.wrap .i64 (r0.2.1 - r0.1)) else r1))), (IntKind.wrap .i64 ((if 1073741824 < (IntKind.wrap .i64 (r0.2.2.2.2.2 + r4.1)) then 1073741824 else (IntKind.wrap .i64 (r0.2.2.2.2.2 + r4.1))) - (IntKind.wrap .i64 (1073741824 - (IntKind.wrap .i64 (r0.1 + (if (IntKind.wrap .i64 (r0.2.1 - r0.1)) < r1 then (IntKind.wrap .i64 (r0.2.1 - r0.1)) else r1))))))))))))
          else some ((IntKind.wrap .i64 ((IntKind.wrap .i64 (r0.1 + (if (IntKind.wrap .i64 (r0.2.1 - r0.1)) < r1 then (IntKind.wrap .i64 (r0.2.1 - r0.1)) else r1))) + (if 1073741824 < (IntKind.wrap .i64 (r0.2.2.2.2.2 + r4.1)) then 1073741824 else (IntKind.wrap .i64 (r0.2.2.2.2.2 + r4.1))))), (r0.2.1, ((IntKind.wrap .i64 (r0.1 + (if (IntKind.wrap .i64 (r0.2.1 - r0.1)) < r1 then (IntKind.wrap .i64 (r0.2.1 - r0.1)) else r1))), (r2, ((IntKind.wrap .i64 (r0.1 + (if (IntKind.wrap .i64 (r0.2.1 - r0.1)) < r1 then (IntKind.wrap .i64 (r0.2.1 - r0.1)) else r1))), (IntKind.wrap .i64 ((if 1073741824 < (IntKind.wrap .i64 (r0.2.2.2.2.2 + r4.1)) then 1073741824 else (IntKind.wrap .i64 (r0.2.2.2.2.2 + r4.1))) - (if 1073741824 < (IntKind.wrap .i64 (r0.2.2.2.2.2 + r4.1)) then 1073741824 else (IntKind.wrap .i64 (r0.2.2.2.2.2 + r4.1))))))))))
        else (leatref49_Size N a3).bind fun r5 =>
        bif (!(decide ((IntKind.wrap .i64 (100 * (IntKind.wrap .i64 (r0.1 + (if (IntKind.wrap .i64 (r0.2.1 - r0.1)) < r1 then (IntKind.wrap .i64 (r0.2.1 - r0.1)) else r1))))) = 0))) then
          bif (decide ((IntKind.wrap .i64 (Int.tdiv (IntKind.wrap .i64 ((IntKind.wrap .i64 (r1 - (if (IntKind.wrap .i64 (r0.2.1 - r0.1)) < r1 then (IntKind.wrap .i64 (r0.2.1 - r0.1)) else r1))) + 1)) 2)) < (if 1073741824 < (IntKind.wrap .i64 (r0.2.2.2.2.2 + (IntKind.wrap .i64 (Int.tdiv (IntKind.wrap .i64 ((IntKind.wrap .i64 (r1 - (if (IntKind.wrap .i64 (r0.2.1 - r0.1)) < r1 then (IntKind.wrap .i64 (r0.2.1 - r0.1)) else r1))) * r5)) (IntKind.wrap .i64 (100 * (IntKind.wrap .i64 (r0.1 + (if (IntKind.wrap .i64 (r0.2.1 - r0.1)) < r1 then (IntKind.wrap .i64 (r0.2.1 - r0.1)) else r1))))))))) then 1073741824 else (IntKind.wrap .i64 (r0.2.2.2.2.2 + (IntKind.wrap .i64 (Int.tdiv (IntKind.wrap .i64 ((IntKind.wrap .i64 (r1 - (if (IntKind.wrap .i64 (r0.2.1 - r0.1)) < r1 then (IntKind.wrap .i64 (r0.2.1 - r0.1)) else r1))) * r5)) (IntKind.wrap .i64 (100 * (IntKind.wrap .i64 (r0.1 + (if (IntKind.wrap .i64 (r0.2.1 - r0.1)) < r1 then (IntKind.wrap .i64 (r0.2.1 - r0.1)) else r1)))))))))))) then
            bif (decide ((IntKind.wrap .i64 (1073741824 - (IntKind.wrap .i64 (r0.1 + (if (IntKind.wrap .i64 (r0.2.1 - r0.1)) < r1 then (IntKind.wrap .i64 (r0.2.1 - r0.1)) else r1))))) < (IntKind.wrap .i64 (Int.tdiv (IntKind.wrap .i64 ((IntKind.wrap .i64 (r1 - (if (IntKind.wrap .i64 (r0.2.1 - r0.1)) < r1 then (IntKind.wrap .i64 (r0.2.1 - r0.1)) else r1))) + 1)) 2)))) then
              some ((IntKind.wrap .i64 ((IntKind.wrap .i64 (r0.1 + (if (IntKind.wrap .i64 (r0.2.1 - r0.1)) < r1 then (IntKind.wrap .i64 (r0.2.1 - r0.1)) else r1))) + (IntKind.wrap .i64 (1073741824 - (IntKind.wrap .i64 (r0.1 + (if (IntKind.wrap .i64 (r0.2.1 - r0.1)) < r1 then (IntKind.wrap .i64 (r0.2.1 - r0.1)) else r1))))))), (r0.2.1, ((IntKind.wrap .i64 (r0.1 + (if (IntKind.wrap .i64 (r0.2.1 - r0.1)) < r1 then (IntKind.wrap .i64 (r0.2.1 - r0.1)) else r1))), (r2, ((IntKind.wrap .i64 (r0.1 + (if (IntKind.wrap .i64 (r0.2.1 - r0.1)) < r1 then (IntKind.wrap .i64 (r0.2.1 - r0.1)) else r1))), (IntKind.wrap .i64 ((if 1073741824 < (IntKind.wrap .i64 (r0.2.2.2.2.2 + (IntKind.wrap .i64 (Int.tdiv (IntKind.wrap .i64 ((IntKind.wrap .i64 (r1 - (if (IntKind.wrap .i64 (r0.2.1 - r0.1)) < r1 then (IntKind.wrap .i64 (r0.2.1 - r0.1)) else r1))) * r5)) (IntKind.wrap .i64 (100 * (IntKind.wrap .i64 (r0.1 + (if (IntKind.wrap .i64 (r0.2.1 - r0.1)) < r1 then (IntKind.wrap .i64 (r0.2.1 - r0.1)) else r1))))))))) then 1073741824 else (IntKind.wrap .i64 (r0.2.2.2.2.2 + (IntKind.wrap .i64 (Int.tdiv (IntKind.wrap .i64 ((IntKind.wrap .i64 (r1 - (if (IntKind.wrap .i64 (r0.2.1 - r0.1)) < r1 then (IntKind.wrap .i64 (r0.2.1 - r0.1)) else r1))) * r5)) (IntKind.wrap .i64 (100 * (IntKind.wrap .i64 (r0.1 + (if (IntKind.wrap .i64 (r0.2.1 - r0.1)) < r1 then (IntKind.wrap .i64 (r0.2.1 - r0.1)) else r1)))))))))) - (IntKind.wrap .i64 (1073741824 - (IntKind.wrap .i64 (r0.1 + (if (IntKind.wrap .i64 (r0.2.1 - r0.1)) < r1 then (IntKind.wrap .i64 (r0.2.1 - r0.1)) else r1))))))))))))
            else some ((IntKind.wrap .i64 ((IntKind.wrap .i64 (r0.1 + (if (IntKind.wrap .i64 (r0.2.1 - r0.1)) < r1 then (IntKind.wrap .i64 (r0.2.1 - r0.1)) else r1))) + (IntKind.wrap .i64 (Int.tdiv (IntKind.wrap .i64 ((IntKind.wrap .i64 (r1 - (if (IntKind.wrap .i64 (r0.2.1 - r0.1)) < r1 then (IntKind.wrap .i64 (r0.2.1 - r0.1)) else r1))) + 1)) 2)))), (r0.2.1, ((IntKind.wrap .i64 (r0.1 + (if (IntKind.wrap .i64 (r0.2.1 - r0.1)) < r1 then (IntKind.wrap .i64 (r0.2.1 - r0.1)) else r1))), (r2, ((IntKind.wrap .i64 (r0.1 + (if (IntKind.wrap .i64 (r0.2.1 - r0.1)) < r1 then (IntKind.wrap .i64 (r0.2.1 - r0.1)) else r1))), (IntKind.wrap .i64 ((if 1073741824 < (IntKind.wrap .i64 (r0.2.2.2.2.2 + (IntKind.wrap .i64 (Int.tdiv (IntKind.wrap .i64 ((IntKind.wrap .i64 (r1 - (if (IntKind.wrap .i64 (r0.2.1 - r0.1)) < r1 then (IntKind.wrap .i64 (r0.2.1 - r0.1)) else r1))) * r5)) (IntKind.wrap .i64 (100 * (IntKind.wrap .i64 (r0.1 + (if (IntKind.wrap .i64 (r0.2.1 - r0.1)) < r1 then (IntKind.wrap .i64 (r0.2.1 - r0.1)) else r1))))))))) then 1073741824 else (IntKind.wrap .i64 (r0.2.2.2.2.2 + (IntKind.wrap .i64 (Int.tdiv (IntKind.wrap .i64 ((IntKind.wrap .i64 (r1 - (if (IntKind.wrap .i64 (r0.2.1 - r0.1)) < r1 then (IntKind.wrap .i64 (r0.2.1 - r0.1)) else r1))) * r5)) (IntKind.wrap .i64 (100 * (IntKind.wrap .i64 (r0.1 + (if (IntKind.wrap .i64 (r0.2.1 - r0.1)) < r1 then (IntKind.wrap .i64 (r0.2.1 - r0.1)) else r1)))))))))) - (IntKind.wrap .i64 (Int.tdiv (IntKind.wrap .i64 ((IntKind.wrap .i64 (r1 - (if (IntKind.wrap .i64 (r0.2.1 - r0.1)) < r1 then (IntKind.wrap .i64 (r0.2.1 - r0.1)) else r1))) + 1)) 2)))))))))
          else bif (decide ((IntKind.wrap .i64 (1073741824 - (IntKind.wrap .i64 (r0.1 + (if (IntKind.wrap .i64 (r0.2.1 - r0.1)) < r1 then (IntKind.wrap .i64 (r0.2.1 - r0.1)) else r1))))) < (if 1073741824 < (IntKind.wrap .i64 (r0.2.2.2.2.2 + (IntKind.wrap .i64 (Int.tdiv (IntKind.wrap .i64 ((IntKind.wrap .i64 (r1 - (if (IntKind.wrap .i64 (r0.2.1 - r0.1)) < r1 then (IntKind.wrap .i64 (r0.2.1 - r0.1)) else r1))) * r5)) (IntKind.wrap .i64 (100 * (IntKind.wrap .i64 (r0.1 + (if (IntKind.wrap .i64 (r0.2.1 - r0.1)) < r1 then (IntKind.wrap .i64 (r0.2.1 - r0.1)) else r1))))))))) then 1073741824 else (IntKind.wrap .i64 (r0.2.2.2.2.2 + (IntKind.wrap .i64 (Int.tdiv (IntKind.wrap .i64 ((IntKind.wrap .i64 (r1 - (if (IntKind.wrap .i64 (r0.2.1 - r0.1)) < r1 then (IntKind.wrap .i64 (r0.2.1 - r0.1)) else r1))) * r5)) (IntKind.wrap .i64 (100 * (IntKind.wrap .i64 (r0.1 + (if (IntKind.wrap .i64 (r0.2.1 - r0.1)) < r1 then (IntKind.wrap .i64 (r0.2.1 - r0.1)) else r1)))))))))))) then
            some ((IntKind.wrap .i64 ((IntKind.wrap .i64 (r0.1 + (if (IntKind.wrap .i64 (r0.2.1 - r0.1)) < r1 then (IntKind.wrap .i64 (r0.2.1 - r0.1)) else r1))) + (IntKind.wrap .i64 (1073741824 - (IntKind.wrap .i64 (r0.1 + (if (IntKind.wrap .i64 (r0.2.1 - r0.1)) < r1 then (IntKind.wrap .i64 (r0.2.1 - r0.1)) else r1))))))), (r0.2.1, ((IntKind.wrap .i64 (r0.1 + (if (IntKind.wrap .i64 (r0.2.1 - r0.1)) < r1 then (IntKind.wrap .i64 (r0.2.1 - r0.1)) else r1))), (r2, ((IntKind.wrap .i64 (r0.1 + (if (IntKind.wrap .i64 (r0.2.1 - r0.1)) < r1 then (IntKind.wrap .i64 (r0.2.1 - r0.1)) else r1))), (IntKind.wrap .i64 ((if 1073741824 < (IntKind.wrap .i64 (r0.2.2.2.2.2 + (IntKind.wrap .i64 (Int.tdiv (IntKind.wrap .i64 ((IntKind.wrap .i64 (r1 - (if (IntKind.wrap .i64 (r0.2.1 - r0.1)) < r1 then (IntKind.wrap .i64 (r0.2.1 - r0.1)) else r1))) * r5)) (IntKind.wrap .i64 (100 * (IntKind.wrap .i64 (r0.1 + (if (IntKind.wrap .i64 (r0.2.1 - r0.1)) < r1 then (IntKind.wrap .i64 (r0.2.1 - r0.1)) else r1))))))))) then 1073741824 else (IntKind.wrap .i64 (r0.2.2.2.2.2 + (IntKind.wrap .i64 (Int.tdiv (IntKind.wrap .i64 ((IntKind.wrap .i64 (r1 - (if (IntKind.wrap .i64 (r0.2.1 - r0.1)) < r1 then (IntKind.wrap .i64 (r0.2.1 - r0.1)) else r1))) * r5)) (IntKind.wrap .i64 (100 * (IntKind.wrap .i64 (r0.1 + (if (IntKind.wrap .i64 (r0.2.1 - r0.1)) < r1 then (IntKind.wrap .i64 (r0.2.1 - r0.1)) else r1)))))))))) - (IntKind.wrap .i64 (1073741824 - (IntKind.wrap .i64 (r0.1 + (if (IntKind.wrap .i64 (r0.2.1 - r0.1)) < r1 then (IntKind.wrap .i64 (r0.2.1 - r0.1)) else r1))))))))))))
          else some ((IntKind.wrap .i64 ((IntKind.wrap .i64 (r0.1 + (if (IntKind.wrap .i64 (r0.2.1 - r0.1)) < r1 then (IntKind.wrap .i64 (r0.2.1 - r0.1)) else r1))) + (if 1073741824 < (IntKind.wrap .i64 (r0.2.2.2.2.2 + (IntKind.wrap .i64 (Int.tdiv (IntKind.wrap .i64 ((IntKind.wrap .i64 (r1 - (if (IntKind.wrap .i64 (r0.2.1 - r0.1)) < r1 then (IntKind.wrap .i64 (r0.2.1 - r0.1)) else r1))) * r5)) (IntKind.wrap .i64 (100 * (IntKind.wrap .i64 (r0.1 + (if (IntKind.wrap .i64 (r0.2.1 - r0.1)) < r1 then (IntKind.wrap .i64 (r0.2.1 - r0.1)) else r1))))))))) then 1073741824 else (IntKind.wrap .i64 (r0.2.2.2.2.2 + (IntKind.wrap .i64 (Int.tdiv (IntKind.wrap .i64 ((IntKind.wrap .i64 (r1 - (if (IntKind.wrap .i64 (r0.2.1 - r0.1)) < r1 then (IntKind.wrap .i64 (r0.2.1 - r0.1)) else r1))) * r5)) (IntKind.wrap .i64 (100 * (IntKind.wrap .i64 (r0.1 + (if (IntKind.wrap .i64 (r0.2.1 - r0.1)) < r1 then (IntKind.wrap .i64 (r0.2.1 - r0.1)) else r1)))))))))))), (r0.2.1, ((IntKind.wrap .i64 (r0.1 + (if (IntKind.wrap .i64 (r0.2.1 - r0.1)) < r1 then (IntKind.wrap .i64 (r0.2.1 - r0.1)) else r1))), (r2, ((IntKind.wrap .i64 (r0.1 + (if (IntKind.wrap .i64 (r0.2.1 - r0.1)) < r1 then (IntKind.wrap .i64 (r0.2.1 - r0.1)) else r1))), (IntKind.wrap .i64 ((if 1073741824 < (IntKind.wrap .i64 (r0.2.2.2.2.2 + (IntKind.wrap .i64 (Int.tdiv (IntKind.wrap .i64 ((IntKind.wrap .i64 (r1 - (if (IntKind.wrap .i64 (r0.2.1 - r0.1)) < r1 then (IntKind.wrap .i64 (r0.2.1 - r0.1)) else r1))) * r5)) (IntKind.wrap .i64 (100 * (IntKind.wrap .i64 (r0.1 + (if (IntKind.wrap .i64 (r0.2.1 - r0.1)) < r1 then (IntKind.wrap .i64 (r0.2.1 - r0.1)) else r1))))))))) then 1073741824 else (IntKind.wrap .i64 (r0.2.2.2.2.2 + (IntKind.wrap .i64 (Int.tdiv (IntKind.wrap .i64 ((IntKind.wrap .i64 (r1 - (if (IntKind.wrap .i64 (r0.2.1 - r0.1)) < r1 then (IntKind.wrap .i64 (r0.2.1 - r0.1)) else r1))) * r5)) (IntKind.wrap .i64 (100 * (IntKind.wrap .i64 (r0.1 + (if (IntKind.wrap .i64 (r0.2.1 - r0.1)) < r1 then (IntKind.wrap .i64 (r0.2.1 - r0.1)) else r1)))))))))) - (if 1073741824 < (IntKind.wrap .i64 (r0.2.2.2.2.2 + (IntKind.wrap .i64 (Int.tdiv (IntKind.wrap .i64 ((IntKind.wrap .i64 (r1 - (if (IntKind.wrap .i64 (r0.2.1 - r0.1)) < r1 then (IntKind.wrap .i64 (r0.2.1 - r0.1)) else r1))) * r5)) (IntKind.wrap .i64 (100 * (IntKind.wrap .i64 (r0.1 + (if (IntKind.wrap .i64 (r0.2.1 - r0.1)) < r1 then (IntKind.wrap .i64 (r0.2.1 - r0.1)) else r1))))))))) then 1073741824 else (IntKind.wrap .i64 (r0.2.2.2.2.2 + (IntKind.wrap .i64 (Int.tdiv (IntKind.wrap .i64 ((IntKind.wrap .i64 (r1 - (if (IntKind.wrap .i64 (r0.2.1 - r0.1)) < r1 then (IntKind.wrap .i64 (r0.2.1 - r0.1)) else r1))) * r5)) (IntKind.wrap .i64 (100 * (IntKind.wrap .i64 (r0.1 + (if (IntKind.wrap .i64 (r0.2.1 - r0.1)) < r1 then (IntKind.wrap .i64 (r0.2.1 - r0.1)) else r1)))))))))))))))))
        else none
      else (leatref49_Target N ((IntKind.wrap .i64 (r0.1 + (if (IntKind.wrap .i64 (r0.2.1 - r0.1)) < r1 then (IntKind.wrap .i64 (r0.2.1 - r0.1)) else r1))), (r0.2.1, (r0.2.2.1, (r2, ((IntKind.wrap .i64 (r0.1 + (if (IntKind.wrap .i64 (r0.2.1 - r0.1)) < r1 then (IntKind.wrap .i64 (r0.2.1 - r0.1)) else r1))), r0.2.2.2.2.2))))) a2 a3).bind fun r6 =>
      bif (decide ((IntKind.wrap .i64 (r0.1 + (if (IntKind.wrap .i64 (r0.2.1 - r0.1)) < r1 then (IntKind.wrap .i64 (r0.2.1 - r0.1)) else r1))) < r6)) then
        (leatref02_MulDiv N (IntKind.wrap .i64 (r6 - (IntKind.wrap .i64 (r0.1 + (if (IntKind.wrap .i64 (r0.2.1 - r0.1)) < r1 then (IntKind.wrap .i64 (r0.2.1 - r0.1)) else r1))))) (IntKind.wrap .i64 (r1 - (if (IntKind.wrap .i64 (r0.2.1 - r0.1)) < r1 then (IntKind.wrap .i64 (r0.2.1 - r0.1)) else r1))) (IntKind.wrap .i64 (r0.1 + (if (IntKind.wrap .i64 (r0.2.1 - r0.1)) < r1 then (IntKind.wrap .i64 (r0.2.1 - r0.1)) else r1))) false).bind fun r7 =>
        bif (decide ((IntKind.wrap .i64 (Int.tdiv (IntKind.wrap .i64 ((IntKind.wrap .i64 (r1 - (if (IntKind.wrap .i64 (r0.2.1 - r0.1)) < r1 then (IntKind.wrap .i64 (r0.2.1 - r0.1)) else r1))) + 1)) 2)) < (if 1073741824 < (IntKind.wrap .i64 (r0.2.2.2.2.2 + r7.1)) then 1073741824 else (IntKind.wrap .i64 (r0.2.2.2.2.2 + r7.1))))) then
          bif (decide ((IntKind.wrap .i64 (1073741824 - (IntKind.wrap .i64 (r0.1 + (if (IntKind.wrap .i64 (r0.2.1 - r0.1)) < r1 then (IntKind.wrap .i64 (r0.2.1 - r0.1)) else r1))))) < (IntKind.wrap .i64 (Int.tdiv (IntKind.wrap .i64 ((IntKind.wrap .i64 (r1 - (if (IntKind.wrap .i64 (r0.2.1 - r0.1)) < r1 then (IntKind.wrap .i64 (r0.2.1 - r0.1)) else r1))) + 1)) 2)))) then
            some ((IntKind.wrap .i64 ((IntKind.wrap .i64 (r0.1 + (if (IntKind.wrap .i64 (r0.2.1 - r0.1)) < r1 then (IntKind.wrap .i64 (r0.2.1 - r0.1)) else r1))) + (IntKind.wrap .i64 (1073741824 - (IntKind.wrap .i64 (r0.1 + (if (IntKind.wrap .i64 (r0.2.1 - r0.1)) < r1 then (IntKind.wrap .i64 (r0.2.1 - r0.1)) else r1))))))), (r0.2.1, (r0.2.2.1, (r2, ((IntKind.wrap .i64 (r0.1 + (if (IntKind.wrap .i64 (r0.2.1 - r0.1)) < r1 then (IntKind.wrap .i64 (r0.2.1 - r0.1)) else r1))), (IntKind.wrap .i64 ((if 1073741824 < (IntKind.wrap .i64 (r0.2.2.2.2.2 + r7.1)) then 1073741824 else (IntKind.wrap .i64 (r0.2.2.2.2.2 + r7.1))) - (IntKind.wrap .i64 (1073741824 - (IntKind.wrap .i64 (r0.1 + (if (IntKind.wrap .i64 (r0.2.1 - r0.1)) < r1 then (IntKind.wrap .i64 (r0.2.1 - r0.1)) else r1))))))))))))
          else some ((IntKind.wrap .i64 ((IntKind.wrap .i64 (r0.1 + (if (IntKind.wrap .i64 (r0.2.1 - r0.1)) < r1 then (IntKind.wrap .i64 (r0.2.1 - r0.1)) else r1))) + (IntKind.wrap .i64 (Int.tdiv (IntKind.wrap .i64 ((IntKind.wrap .i64 (r1 - (if (IntKind.wrap .i64 (r0.2.1 - r0.1)) < r1 then (IntKind.wrap .i64 (r0.2.1 - r0.1)) else r1))) + 1)) 2)))), (r0.2.1, (r0.2.2.1, (r2, ((IntKind.wrap .i64 (r0.1 + (if (IntKind.wrap .i64 (r0.2.1 - r0.1)) < r1 then (IntKind.wrap .i64 (r0.2.1 - r0.1)) else r1))), (IntKind.wrap .i64 ((if 1073741824 < (IntKind.wrap .i64 (r0.2.2.2.2.2 + r7.1)) then 1073741824 else (IntKind.wrap .i64 (r0.2.2.2.2.2 + r7.1))) - (IntKind.wrap .i64 (Int.tdiv (IntKind.wrap .i64 ((IntKind.wrap .i64 (r1 - (if (IntKind.wrap .i64 (r0.2.1 - r0.1)) < r1 then (IntKind.wrap .i64 (r0.2.1 - r0.1)) else r1))) + 1)) 2)))))))))
        else bif (decide ((IntKind.wrap .i64 (1073741824 - (IntKind.wrap .i64 (r0.1 + (if (IntKind.wrap .i64 (r0.2.1 - r0.1)) < r1 then (IntKind.wrap .i64 (r0.2.1 - r0.1)) else r1))))) < (if 1073741824 < (IntKind.wrap .i64 (r0.2.2.2.2.2 + r7.1)) then 1073741824 else (IntKind.wrap .i64 (r0.2.2.2.2.2 + r7.1))))) then
          some ((IntKind.wrap .i64 ((IntKind.wrap .i64 (r0.1 + (if (IntKind.wrap .i64 (r0.2.1 - r0.1)) < r1 then (IntKind.wrap .i64 (r0.2.1 - r0.1)) else r1))) + (IntKind.wrap .i64 (1073741824 - (IntKind.wrap .i64 (r0.1 + (if (IntKind.wrap .i64 (r0.2.1 - r0.1)) < r1 then (IntKind.wrap .i64 (r0.2.1 - r0.1)) else r1))))))), (r0.2.1, (r0.2.2.1, (r2, ((IntKind.wrap .i64 (r0.1 + (if (IntKind.wrap .i64 (r0.2.1 - r0.1)) < r1 then (IntKind.wrap .i64 (r0.2.1 - r0.1)) else r1))), (IntKind.wrap .i64 ((if 1073741824 < (IntKind.wrap .i64 (r0.2.2.2.2.2 + r7.1)) then 1073741824 else (IntKind.wrap .i64 (r0.2.2.2.2.2 + r7.1))) - (IntKind.wrap .i64 (1073741824 - (IntKind.wrap .i64 (r0.1 + (if (IntKind.wrap .i64 (r0.2.1 - r0.1)) < r1 then (IntKind.wrap .i64 (r0.2.1 - r0.1)) else r1))))))))))))
        else some ((IntKind.wrap .i64 ((IntKind.wrap .i64 (r0.1 + (if (IntKind.wrap .i64 (r0.2.1 - r0.1)) < r1 then (IntKind.wrap .i64 (r0.2.1 - r0.1)) else r1))) + (if 1073741824 < (IntKind.wrap .i64 (r0.2.2.2.2.2 + r7.1)) then 1073741824 else (IntKind.wrap .i64 (r0.2.2.2.2.2 + r7.1))))), (r0.2.1, (r0.2.2.1, (r2, ((IntKind.wrap .i64 (r0.1 + (if (IntKind.wrap .i64 (r0.2.1 - r0.1)) < r1 then (IntKind.wrap .i64 (r0.2.1 - r0.1)) else r1))), (IntKind.wrap .i64 ((if 1073741824 < (IntKind.wrap .i64 (r0.2.2.2.2.2 + r7.1)) then 1073741824 else (IntKind.wrap .i64 (r0.2.2.2.2.2 + r7.1))) - (if 1073741824 < (IntKind.wrap .i64 (r0.2.2.2.2.2 + r7.1)) then 1073741824 else (IntKind.wrap .i64 (r0.2.2.2.2.2 + r7.1))))))))))
      else (leatref49_Size N a3).bind fun r8 =>
      bif (!(decide ((IntKind.wrap .i64 (100 * (IntKind.wrap .i64 (r0.1 + (if (IntKind.wrap .i64 (r0.2.1 - r0.1)) < r1 then (IntKind.wrap .i64 (r0.2.1 - r0.1)) else r1))))) = 0))) then
        bif (decide ((IntKind.wrap .i64 (Int.tdiv (IntKind.wrap .i64 ((IntKind.wrap .i64 (r1 - (if (IntKind.wrap .i64 (r0.2.1 - r0.1)) < r1 then (IntKind.wrap .i64 (r0.2.1 - r0.1)) else r1))) + 1)) 2)) < (if 1073741824 < (IntKind.wrap .i64 (r0.2.2.2.2.2 + (IntKind.wrap .i64 (Int.tdiv (IntKind.wrap .i64 ((IntKind.wrap .i64 (r1 - (if (IntKind.wrap .i64 (r0.2.1 - r0.1)) < r1 then (IntKind.wrap .i64 (r0.2.1 - r0.1)) else r1))) * r8)) (IntKind.wrap .i64 (100 * (IntKind.wrap .i64 (r0.1 + (if (IntKind.wrap .i64 (r0.2.1 - r0.1)) < r1 then (IntKind.wrap .i64 (r0.2.1 - r0.1)) else r1))))))))) then 1073741824 else (IntKind.wrap .i64 (r0.2.2.2.2.2 + (IntKind.wrap .i64 (Int.tdiv (IntKind.wrap .i64 ((IntKind.wrap .i64 (r1 - (if (IntKind.wrap .i64 (r0.2.1 - r0.1)) < r1 then (IntKind.wrap .i64 (r0.2.1 - r0.1)) else r1))) * r8)) (IntKind.wrap .i64 (100 * (IntKind.wrap .i64 (r0.1 + (if (IntKind.wrap .i64 (r0.2.1 - r0.1)) < r1 then (IntKind.wrap .i64 (r0.2.1 - r0.1)) else r1)))))))))))) then
          bif (decide ((IntKind.wrap .i64 (1073741824 - (IntKind.wrap .i64 (r0.1 + (if (IntKind.wrap .i64 (r0.2.1 - r0.1)) < r1 then (IntKind.wrap .i64 (r0.2.1 - r0.1)) else r1))))) < (IntKind.wrap .i64 (Int.tdiv (IntKind.wrap .i64 ((IntKind.wrap .i64 (r1 - (if (IntKind.wrap .i64 (r0.2.1 - r0.1)) < r1 then (IntKind.wrap .i64 (r0.2.1 - r0.1)) else r1))) + 1)) 2)))) then
            some ((IntKind.wrap .i64 ((IntKind.wrap .i64 (r0.1 + (if (IntKind.wrap .i64 (r0.2.1 - r0.1)) < r1 then (IntKind.wrap .i64 (r0.2.1 - r0.1)) else r1))) + (IntKind.wrap .i64 (1073741824 - (IntKind.wrap .i64 (r0.1 + (if (IntKind.wrap .i64 (r0.2.1 - r0.1)) < r1 then (IntKind.wrap .i64 (r0.2.1 - r0.1)) else r1))))))), (r0.2.1, (r0.2.2.1, (r2, ((IntKind.wrap .i64 (r0.1 + (if (IntKind.wrap .i64 (r0.2.1 - r0.1)) < r1 then (IntKind.wrap .i64 (r0.2.1 - r0.1)) else r1))), (IntKind.wrap .i64 ((if 1073741824 < (IntKind.wrap .i64 (r0.2.2.2.2.2 + (IntKind.wrap .i64 (Int.tdiv (IntKind.wrap .i64 ((IntKind.wrap .i64 (r1 - (if (IntKind.wrap .i64 (r0.2.1 - r0.1)) < r1 then (IntKind.wrap .i64 (r0.2.1 - r0.1)) else r1))) * r8)) (IntKind.wrap .i64 (100 * (IntKind.wrap .i64 (r0.1 + (if (IntKind.wrap .i64 (r0.2.1 - r0.1)) < r1 then (IntKind.wrap .i64 (r0.2.1 - r0.1)) else r1))))))))) then 1073741824 else (IntKind.wrap .i64 (r0.2.2.2.2.2 + (IntKind.wrap .i64 (Int.tdiv (IntKind.wrap .i64 ((IntKind.wrap .i64 (r1 - (if (IntKind.wrap .i64 (r0.2.1 - r0.1)) < r1 then (IntKind.wrap .i64 (r0.2.1 - r0.1)) else r1))) * r8)) (IntKind.wrap .i64 (100 * (IntKind.wrap .i64 (r0.1 + (if (IntKind.wrap .i64 (r0.2.1 - r0.1)) < r1 then (IntKind.wrap .i64 (r0.2.1 - r0.1)) else r1)))))))))) - (IntKind.wrap .i64 (1073741824 - (IntKind.wrap .i64 (r0.1 + (if (IntKind.wrap .i64 (r0.2.1 - r0.1)) < r1 then (IntKind.wrap .i64 (r0.2.1 - r0.1)) else r1))))))))))))
          else some ((IntKind.wrap .i64 ((IntKind.wrap .i64 (r0.1 + (if (IntKind.wrap .i64 (r0.2.1 - r0.1)) < r1 then (IntKind.wrap .i64 (r0.2.1 - r0.1)) else r1))) + (IntKind.wrap .i64 (Int.tdiv (IntKind.wrap .i64 ((IntKind.wrap .i64 (r1 - (if (IntKind.wrap .i64 (r0.2.1 - r0.1)) < r1 then (IntKind.wrap .i64 (r0.2.1 - r0.1)) else r1))) + 1)) 2)))), (r0.2.1, (r0.2.2.1, (r2, ((IntKind.wrap .i64 (r0.1 + (if (IntKind.wrap .i64 (r0.2.1 - r0.1)) < r1 then (IntKind.wrap .i64 (r0.2.1 - r0.1)) else r1))), (IntKind.wrap .i64 ((if 1073741824 < (IntKind.wrap .i64 (r0.2.2.2.2.2 + (IntKind.wrap .i64 (Int.tdiv (IntKind.wrap .i64 ((IntKind.wrap .i64 (r1 - (if (IntKind.wrap .i64 (r0.2.1 - r0.1)) < r1 then (IntKind.wrap .i64 (r0.2.1 - r0.1)) else r1))) * r8)) (IntKind.wrap .i64 (100 * (IntKind.wrap .i64 (r0.1 + (if (IntKind.wrap .i64 (r0.2.1 - r0.1)) < r1 then (IntKind.wrap .i64 (r0.2.1 - r0.1)) else r1))))))))) then 1073741824 else (IntKind.wrap .i64 (r0.2.2.2.2.2 + (IntKind.wrap .i64 (Int.tdiv (IntKind.wrap .i64 ((IntKind.wrap .i64 (r1 - (if (IntKind.wrap .i64 (r0.2.1 - r0.1)) < r1 then (IntKind.wrap .i64 (r0.2.1 - r0.1)) else r1))) * r8)) (IntKind.wrap .i64 (100 * (IntKind.wrap .i64 (r0.1 + (if (IntKind.wrap .i64 (r0.2.1 - r0.1)) < r1 then (IntKind.wrap .i64 (r0.2.1 - r0.1)) else r1)))))))))) - (IntKind.wrap .i64 (Int.tdiv (IntKind.wrap .i64 ((IntKind.wrap .i64 (r1 - (if (IntKind.wrap .i64 (r0.2.1 - r0.1)) < r1 then (IntKind.wrap .i64 (r0.2.1 - r0.1)) else r1))) + 1)) 2)))))))))
        else bif (decide ((IntKind.wrap .i64 (1073741824 - (IntKind.wrap .i64 (r0.1 + (if (IntKind.wrap .i64 (r0.2.1 - r0.1)) < r1 then (IntKind.wrap .i64 (r0.2.1 - r0.1)) else r1))))) < (if 1073741824 < (IntKind.wrap .i64 (r0.2.2.2.2.2 + (IntKind.wrap .i64 (Int.tdiv (IntKind.wrap .i64 ((IntKind.wrap .i64 (r1 - (if (IntKind.wrap .i64 (r0.2.1 - r0.1)) < r1 then (IntKind.wrap .i64 (r0.2.1 - r0.1)) else r1))) * r8)) (IntKind.wrap .i64 (100 * (IntKind.wrap .i64 (r0.1 + (if (IntKind.wrap .i64 (r0.2.1 - r0.1)) < r1 then (IntKind.wrap .i64 (r0.2.1 - r0.1)) else r1))))))))) then 1073741824 else (IntKind.wrap .i64 (r0.2.2.2.2.2 + (IntKind.wrap .i64 (Int.tdiv (IntKind.wrap .i64 ((IntKind.wrap .i64 (r1 - (if (IntKind.wrap .i64 (r0.2.1 - r0.1)) < r1 then (IntKind.wrap .i64 (r0.2.1 - r0.1)) else r1))) * r8)) (IntKind.wrap .i64 (100 * (IntKind.wrap .i64 (r0.1 + (if (IntKind.wrap .i64 (r0.2.1 - r0.1)) < r1 then (IntKind.wrap .i64 (r0.2.1 - r0.1)) else r1)))))))))))) then
          some ((IntKind.wrap .i64 ((IntKind.wrap .i64 (r0.1 + (if (IntKind.wrap .i64 (r0.2.1 - r0.1)) < r1 then (IntKind.wrap .i64 (r0.2.1 - r0.1)) else r1))) + (IntKind.wrap .i64 (1073741824 - (IntKind.wrap .i64 (r0.1 + (if (IntKind.wrap .i64 (r0.2.1 - r0.1)) < r1 then (IntKind.wrap .i64 (r0.2.1 - r0.1)) else r1))))))), (r0.2.1, (r0.2.2.1, (r2, ((IntKind.wrap .i64 (r0.1 + (if (IntKind.wrap .i64 (r0.2.1 - r0.1)) < r1 then (IntKind.wrap .i64 (r0.2.1 - r0.1)) else r1))), (IntKind.wrap .i64 ((if 1073741824 < (IntKind.wrap .i64 (r0.2.2.2.2.2 + (IntKind.wrap .i64 (Int.tdiv (IntKind.wrap .i64 ((IntKind.wrap .i64 (r1 - (if (IntKind.wrap .i64 (r0.2.1 - r0.1)) < r1 then (IntKind.wrap .i64 (r0.2.1 - r0.1)) else r1))) * r8)) (IntKind.wrap .i64 (100 * (IntKind.wrap .i64 (r0.1 + (if (IntKind.wrap .i64 (r0.2.1 - r0.1)) < r1 then (IntKind.wrap .i64 (r0.2.1 - r0.1)) else r1))))))))) then 1073741824 else (IntKind.wrap .i64 (r0.2.2.2.2.2 + (IntKind.wrap .i64 (Int.tdiv (IntKind.wrap .i64 ((IntKind.wrap .i64 (r1 - (if (IntKind.wrap .i64 (r0.2.1 - r0.1)) < r1 then (IntKind.wrap .i64 (r0.2.1 - r0.1)) else r1))) * r8)) (IntKind.wrap .i64 (100 * (IntKind.wrap .i64 (r0.1 + (if (IntKind.wrap .i64 (r0.2.1 - r0.1)) < r1 then (IntKind.wrap .i64 (r0.2.1 - r0.1)) else r1)))))))))) - (IntKind.wrap .i64 (1073741824 - (IntKind.wrap .i64 (r0.1 + (if (IntKind.wrap .i64 (r0.2.1 - r0.1)) < r1 then (IntKind.wrap .i64 (r0.2.1 - r0.1)) else r1))))))))))))
        else some ((IntKind.wrap .i64 ((IntKind.wrap .i64 (r0.1 + (if (IntKind.wrap .i64 (r0.2.1 - r0.1)) < r1 then (IntKind.wrap .i64 (r0.2.1 - r0.1)) else r1))) + (if 1073741824 < (IntKind.wrap .i64 (r0.2.2.2.2.2 + (IntKind.wrap .i64 (Int.tdiv (IntKind.wrap .i64 ((IntKind.wrap .i64 (r1 - (if (IntKind.wrap .i64 (r0.2.1 - r0.1)) < r1 then (IntKind.wrap .i64 (r0.2.1 - r0.1)) else r1))) * r8)) (IntKind.wrap .i64 (100 * (IntKind.wrap .i64 (r0.1 + (if (IntKind.wrap .i64 (r0.2.1 - r0.1)) < r1 then (IntKind.wrap .i64 (r0.2.1 - r0.1)) else r1))))))))) then 1073741824 else (IntKind.wrap .i64 (r0.2.2.2.2.2 + (IntKind.wrap .i64 (Int.tdiv (IntKind.wrap .i64 ((IntKind.wrap .i64 (r1 - (if (IntKind.wrap .i64 (r0.2.1 - r0.1)) < r1 then (IntKind.wrap .i64 (r0.2.1 - r0.1)) else r1))) * r8)) (IntKind.wrap .i64 (100 * (IntKind.wrap .i64 (r0.1 + (if (IntKind.wrap .i64 (r0.2.1 - r0.1)) < r1 then (IntKind.wrap .i64 (r0.2.1 - r0.1)) else r1)))))))))))), (r0.2.1, (r0.2.2.1, (r2, ((IntKind.wrap .i64 (r0.1 + (if (IntKind.wrap .i64 (r0.2.1 - r0.1)) < r1 then (IntKind.wrap .i64 (r0.2.1 - r0.1)) else r1))), (IntKind.wrap .i64 ((if 1073741824 < (IntKind.wrap .i64 (r0.2.2.2.2.2 + (IntKind.wrap .i64 (Int.tdiv (IntKind.wrap .i64 ((IntKind.wrap .i64 (r1 - (if (IntKind.wrap .i64 (r0.2.1 - r0.1)) < r1 then (IntKind.wrap .i64 (r0.2.1 - r0.1)) else r1))) * r8)) (IntKind.wrap .i64 (100 * (IntKind.wrap .i64 (r0.1 + (if (IntKind.wrap .i64 (r0.2.1 - r0.1)) < r1 then (IntKind.wrap .i64 (r0.2.1 - r0.1)) else r1))))))))) then 1073741824 else (IntKind.wrap .i64 (r0.2.2.2.2.2 + (IntKind.wrap .i64 (Int.tdiv (IntKind.wrap .i64 ((IntKind.wrap .i64 (r1 - (if (IntKind.wrap .i64 (r0.2.1 - r0.1)) < r1 then (IntKind.wrap .i64 (r0.2.1 - r0.1)) else r1))) * r8)) (IntKind.wrap .i64 (100 * (IntKind.wrap .i64 (r0.1 + (if (IntKind.wrap .i64 (r0.2.1 - r0.1)) < r1 then (IntKind.wrap .i64 (r0.2.1 - r0.1)) else r1)))))))))) - (if 1073741824 < (IntKind.wrap .i64 (r0.2.2.2.2.2 + (IntKind.wrap .i64 (Int.tdiv (IntKind.wrap .i64 ((IntKind.wrap .i64 (r1 - (if (IntKind.wrap .i64 (r0.2.1 - r0.1)) < r1 then (IntKind.wrap .i64 (r0.2.1 - r0.1)) else r1))) * r8)) (IntKind.wrap .i64 (100 * (IntKind.wrap .i64 (r0.1 + (if (IntKind.wrap .i64 (r0.2.1 - r0.1)) < r1 then (IntKind.wrap .i64 (r0.2.1 - r0.1)) else r1))))))))) then 1073741824 else (IntKind.wrap .i64 (r0.2.2.2.2.2 + (IntKind.wrap .i64 (Int.tdiv (IntKind.wrap .i64 ((IntKind.wrap .i64 (r1 - (if (IntKind.wrap .i64 (r0.2.1 - r0.1)) < r1 then (IntKind.wrap .i64 (r0.2.1 - r0.1)) else r1))) * r8)) (IntKind.wrap .i64 (100 * (IntKind.wrap .i64 (r0.1 + (if (IntKind.wrap .i64 (r0.2.1 - r0.1)) < r1 then (IntKind.wrap .i64 (r0.2.1 - r0.1)) else r1)))))))))))))))))
      else none
    else (leatref49_Target N ((IntKind.wrap .i64 (r0.1 + (if (IntKind.wrap .i64 (r0.2.1 - r0.1)) < r1 then (IntKind.wrap .i64 (r0.2.1 - r0.1)) else r1))), r0.2) a2 a3).bind fun r9 =>
    bif (decide ((IntKind.wrap .i64 (r0.1 + (if (IntKind.wrap .i64 (r0.2.1 - r0.1)) < r1 then (IntKind.wrap .i64 (r0.2.1 - r0.1)) else r1))) < r9)) then
      (leatref02_MulDiv N (IntKind.wrap .i64 (r9 - (IntKind.wrap .i64 (r0.1 + (if (IntKind.wrap .i64 (r0.2.1 - r0.1)) < r1 then (IntKind.wrap .i64 (r0.2.1 - r0.1)) else r1))))) (IntKind.wrap .i64 (r1 - (if (IntKind.wrap .i64 (r0.2.1 - r0.1)) < r1 then (IntKind.wrap .i64 (r0.2.1 - r0.1)) else r1))) (IntKind.wrap .i64 (r0.1 + (if (IntKind.wrap .i64 (r0.2.1 - r0.1)) < r1 then (IntKind.wrap .i64 (r0.2.1 - r0.1)) else r1))) false).bind fun r10 =>
      bif (decide ((IntKind.wrap .i64 (Int.tdiv (IntKind.wrap .i64 ((IntKind.wrap .i64 (r1 - (if (IntKind.wrap .i64 (r0.2.1 - r0.1)) < r1 then (IntKind.wrap .i64 (r0.2.1 - r0.1)) else r1))) + 1)) 2)) < (if 1073741824 < (IntKind.wrap .i64 (r0.2.2.2.2.2 + r10.1)) then 1073741824 else (IntKind.wrap .i64 (r0.2.2.2.2.2 + r10.1))))) then
        bif (decide ((IntKind.wrap .i64 (1073741824 - (IntKind.wrap .i64 (r0.1 + (if (IntKind.wrap .i64 (r0.2.1 - r0.1)) < r1 then (IntKind.wrap .i64 (r0.2.1 - r0.1)) else r1))))) < (IntKind.wrap .i64 (Int.tdiv (IntKind.wrap .i64 ((IntKind.wrap .i64 (r1 - (if (IntKind.wrap .i64 (r0.2.1 - r0.1)) < r1 then (IntKind.wrap .i64 (r0.2.1 - r0.1)) else r1))) + 1)) 2)))) then
          some ((IntKind.wrap .i64 ((IntKind.wrap .i64 (r0.1 + (if (IntKind.wrap .i64 (r0.2.1 - r0.1)) < r1 then (IntKind.wrap .i64 (r0.2.1 - r0.1)) else r1))) + (IntKind.wrap .i64 (1073741824 - (IntKind.wrap .i64 (r0.1 + (if (IntKind.wrap .i64 (r0.2.1 - r0.1)) < r1 then (IntKind.wrap .i64 (r0.2.1 - r0.1)) else r1))))))), (r0.2.1, (r0.2.2.1, (r0.2.2.2.1, (r0.2.2.2.2.1, (IntKind.wrap .i64 ((if 1073741824 < (IntKind.wrap .i64 (r0.2.2.2.2.2 + r10.1)) then 1073741824 else (IntKind.wrap .i64 (r0.2.2.2.2.2 + r10.1))) - (IntKind.wrap .i64 (1073741824 - (IntKind.wrap .i64 (r0.1 + (if (IntKind.wrap .i64 (r0.2.1 - r0.1)) < r1 then (IntKind.wrap .i64 (r0.2.1 - r0.1)) else r1))))))))))))
        else some ((IntKind.wrap .i64 ((IntKind.wrap .i64 (r0.1 + (if (IntKind.wrap .i64 (r0.2.1 - r0.1)) < r1 then (IntKind.wrap .i64 (r0.2.1 - r0.1)) else r1))) + (IntKind.wrap .i64 (Int.tdiv (IntKind.wrap .i64 ((IntKind.wrap .i64 (r1 - (if (IntKind.wrap .i64 (r0.2.1 - r0.1)) < r1 then (IntKind.wrap .i64 (r0.2.1 - r0.1)) else r1))) + 1)) 2)))), (r0.2.1, (r0.2.2.1, (r0.2.2.2.1, (r0.2.2.2.2.1, (IntKind.wrap .i64 ((if 1073741824 < (IntKind.wrap .i64 (r0.2.2.2.2.2 + r10.1)) then 1073741824 else (IntKind.wrap .i64 (r0.2.2.2.2.2 + r10.1))) - (IntKind.wrap .i64 (Int.tdiv (IntKind.wrap .i64 ((IntKind.wrap .i64 (r1 - (if (IntKind.wrap .i64 (r0.2.1 - r0.1)) < r1 then (IntKind.wrap .i64 (r0.2.1 - r0.1)) else r1))) + 1)) 2)))))))))
      else bif (decide ((IntKind.wrap .i64 (1073741824 - (IntKind.wrap .i64 (r0.1 + (if (IntKind.wrap .i64 (r0.2.1 - r0.1)) < r1 then (IntKind.wrap .i64 (r0.2.1 - r0.1)) else r1))))) < (if 1073741824 < (IntKind.wrap .i64 (r0.2.2.2.2.2 + r10.1)) then 1073741824 else (IntKind.wrap .i64 (r0.2.2.2.2.2 + r10.1))))) then
        some ((IntKind.wrap .i64 ((IntKind.wrap .i64 (r0.1 + (if (IntKind.wrap .i64 (r0.2.1 - r0.1)) < r1 then (IntKind.wrap .i64 (r0.2.1 - r0.1)) else r1))) + (IntKind.wrap .i64 (1073741824 - (IntKind.wrap .i64 (r0.1 + (if (IntKind.wrap .i64 (r0.2.1 - r0.1)) < r1 then (IntKind.wrap .i64 (r0.2.1 - r0.1)) else r1))))))), (r0.2.1, (r0.2.2.1, (r0.2.2.2.1, (r0.2.2.2.2.1, (IntKind.wrap .i64 ((if 1073741824 < (IntKind.wrap .i64 (r0.2.2.2.2.2 + r10.1)) then 1073741824 else (IntKind.wrap .i64 (r0.2.2.2.2.2 + r10.1))) - (IntKind.wrap .i64 (1073741824 - (IntKind.wrap .i64 (r0.1 + (if (IntKind.wrap .i64 (r0.2.1 - r0.1)) < r1 then (IntKind.wrap .i64 (r0.2.1 - r0.1)) else r1))))))))))))
      else some ((IntKind.wrap .i64 ((IntKind.wrap .i64 (r0.1 + (if (IntKind.wrap .i64 (r0.2.1 - r0.1)) < r1 then (IntKind.wrap .i64 (r0.2.1 - r0.1)) else r1))) + (if 1073741824 < (IntKind.wrap .i64 (r0.2.2.2.2.2 + r10.1)) then 1073741824 else (IntKind.wrap .i64 (r0.2.2.2.2.2 + r10.1))))), (r0.2.1, (r0.2.2.1, (r0.2.2.2.1, (r0.2.2.2.2.1, (IntKind.wrap .i64 ((if 1073741824 < (IntKind.wrap .i64 (r0.2.2.2.2.2 + r10.1)) then 1073741824 else (IntKind.wrap .i64 (r0.2.2.2.2.2 + r10.1))) - (if 1073741824 < (IntKind.wrap .i64 (r0.2.2.2.2.2 + r10.1)) then 1073741824 else (IntKind.wrap .i64 (r0.2.2.2.2.2 + r10.1))))))))))
    else (leatref49_Size N a3).bind fun r11 =>
    bif (!(decide ((IntKind.wrap .i64 (100 * (IntKind.wrap .i64 (r0.1 + (if (IntKind.wrap .i64 (r0.2.1 - r0.1)) < r1 then (IntKind.wrap .i64 (r0.2.1 - r0.1)) else r1))))) = 0))) then
      bif (decide ((IntKind.wrap .i64 (Int.tdiv (IntKind.wrap .i64 ((IntKind.wrap .i64 (r1 - (if (IntKind.wrap .i64 (r0.2.1 - r0.1)) < r1 then (IntKind.wrap .i64 (r0.2.1 - r0.1)) else r1))) + 1)) 2)) < (if 1073741824 < (IntKind.wrap .i64 (r0.2.2.2.2.2 + (IntKind.wrap .i64 (Int.tdiv (IntKind.wrap .i64 ((IntKind.wrap .i64 (r1 - (if (IntKind.wrap .i64 (r0.2.1 - r0.1)) < r1 then (IntKind.wrap .i64 (r0.2.1 - r0.1)) else r1))) * r11)) (IntKind.wrap .i64 (100 * (IntKind.wrap .i64 (r0.1 + (if (IntKind.wrap .i64 (r0.2.1 - r0.1)) < r1 then (IntKind.wrap .i64 (r0.2.1 - r0.1)) else r1))))))))) then 1073741824 else (IntKind.wrap .i64 (r0.2.2.2.2.2 + (IntKind.wrap .i64 (Int.tdiv (IntKind.wrap .i64 ((IntKind.wrap .i64 (r1 - (if (IntKind.wrap .i64 (r0.2.1 - r0.1)) < r1 then (IntKind.wrap .i64 (r0.2.1 - r0.1)) else r1))) * r11)) (IntKind.wrap .i64 (100 * (IntKind.wrap .i64 (r0.1 + (if (IntKind.wrap .i64 (r0.2.1 - r0.1)) < r1 then (IntKind.wrap .i64 (r0.2.1 - r0.1)) else r1)))))))))))) then
        bif (decide ((IntKind.wrap .i64 (1073741824 - (IntKind.wrap .i64 (r0.1 + (if (IntKind.wrap .i64 (r0.2.1 - r0.1)) < r1 then (IntKind.wrap .i64 (r0.2.1 - r0.1)) else r1))))) < (IntKind.wrap .i64 (Int.tdiv (IntKind.wrap .i64 ((IntKind.wrap .i64 (r1 - (if (IntKind.wrap .i64 (r0.2.1 - r0.1)) < r1 then (IntKind.wrap .i64 (r0.2.1 - r0.1)) else r1))) + 1)) 2)))) then
          some ((IntKind.wrap .i64 ((IntKind.wrap .i64 (r0.1 + (if (IntKind.wrap .i64 (r0.2.1 - r0.1)) < r1 then (IntKind.wrap .i64 (r0.2.1 - r0.1)) else r1))) + (IntKind.wrap .i64 (1073741824 - (IntKind.wrap .i64 (r0.1 + (if (IntKind.wrap .i64 (r0.2.1 - r0.1)) < r1 then (IntKind.wrap .i64 (r0.2.1 - r0.1)) else r1))))))), (r0.2.1, (r0.2.2.1, (r0.2.2.2.1, (r0.2.2.2.2.1, (IntKind.wrap .i64 ((if 1073741824 < (IntKind.wrap .i64 (r0.2.2.2.2.2 + (IntKind.wrap .i64 (Int.tdiv (IntKind.wrap .i64 ((IntKind.wrap .i64 (r1 - (if (IntKind.wrap .i64 (r0.2.1 - r0.1)) < r1 then (IntKind.wrap .i64 (r0.2.1 - r0.1)) else r1))) * r11)) (IntKind.wrap .i64 (100 * (IntKind.wrap .i64 (r0.1 + (if (IntKind.wrap .i64 (r0.2.1 - r0.1)) < r1 then (IntKind.wrap .i64 (r0.2.1 - r0.1)) else r1))))))))) then 1073741824 else (IntKind.wrap .i64 (r0.2.2.2.2.2 + (IntKind.wrap .i64 (Int.tdiv (IntKind.wrap .i64 ((IntKind.wrap .i64 (r1 - (if (IntKind.wrap .i64 (r0.2.1 - r0.1)) < r1 then (IntKind.wrap .i64 (r0.2.1 - r0.1)) else r1))) * r11)) (IntKind.wrap .i64 (100 * (IntKind.wrap .i64 (r0.1 + (if (IntKind.wrap .i64 (r0.2.1 - r0.1)) < r1 then (IntKind.wrap .i64 (r0.2.1 - r0.1)) else r1)))))))))) - (IntKind.wrap .i64 (1073741824 - (IntKind.wrap .i64 (r0.1 + (if (IntKind.wrap .i64 (r0.2.1 - r0.1)) < r1 then (IntKind.wrap .i64 (r0.2.1 - r0.1)) else r1))))))))))))
        else some ((IntKind.wrap .i64 ((IntKind.wrap .i64 (r0.1 + (if (IntKind.wrap .i64 (r0.2.1 - r0.1)) < r1 then (IntKind.wrap .i64 (r0.2.1 - r0.1)) else r1))) + (IntKind.wrap .i64 (Int.tdiv (IntKind.wrap .i64 ((IntKind.wrap .i64 (r1 - (if (IntKind.wrap .i64 (r0.2.1 - r0.1)) < r1 then (IntKind.wrap .i64 (r0.2.1 - r0.1)) else r1))) + 1)) 2)))), (r0.2.1, (r0.2.2.1, (r0.2.2.2.1, (r0.2.2.2.2.1, (IntKind.wrap .i64 ((if 1073741824 < (IntKind.wrap .i64 (r0.2.2.2.2.2 + (IntKind.wrap .i64 (Int.tdiv (IntKind.wrap .i64 ((IntKind.wrap .i64 (r1 - (if (IntKind.wrap .i64 (r0.2.1 - r0.1)) < r1 then (IntKind.wrap .i64 (r0.2.1 - r0.1)) else r1))) * r11)) (IntKind.wrap .i64 (100 * (IntKind.wrap .i64 (r0.1 + (if (IntKind.wrap .i64 (r0.2.1 - r0.1)) < r1 then (IntKind.wrap .i64 (r0.2.1 - r0.1)) else r1))))))))) then 1073741824 else (IntKind.wrap .i64 (r0.2.2.2.2.2 + (IntKind.wrap .i64 (Int.tdiv (IntKind.wrap .i64 ((IntKind.wrap .i64 (r1 - (if (IntKind.wrap .i64 (r0.2.1 - r0.1)) < r1 then (IntKind.wrap .i64 (r0.2.1 - r0.1)) else r1))) * r11)) (IntKind.wrap .i64 (100 * (IntKind.wrap .i64 (r0.1 + (if (IntKind.wrap .i64 (r0.2.1 - r0.1)) < r1 then (IntKind.wrap .i64 (r0.2.1 - r0.1)) else r1)))))))))) - (IntKind.wrap .i64 (Int.tdiv (IntKind.wrap .i64 ((IntKind.wrap .i64 (r1 - (if (IntKind.wrap .i64 (r0.2.1 - r0.1)) < r1 then (IntKind.wrap .i64 (r0.2.1 - r0.1)) else r1))) + 1)) 2)))))))))
      else bif (decide ((IntKind.wrap .i64 (1073741824 - (IntKind.wrap .i64 (r0.1 + (if (IntKind.wrap .i64 (r0.2.1 - r0.1)) < r1 then (IntKind.wrap .i64 (r0.2.1 - r0.1)) else r1))))) < (if 1073741824 < (IntKind.wrap .i64 (r0.2.2.2.2.2 + (IntKind.wrap .i64 (Int.tdiv (IntKind.wrap .i64 ((IntKind.wrap .i64 (r1 - (if (IntKind.wrap .i64 (r0.2.1 - r0.1)) < r1 then (IntKind.wrap .i64 (r0.2.1 - r0.1)) else r1))) * r11)) (IntKind.wrap .i64 (100 * (IntKind.wrap .i64 (r0.1 + (if (IntKind.wrap .i64 (r0.2.1 - r0.1)) < r1 then (IntKind.wrap .i64 (r0.2.1 - r0.1)) else r1))))))))) then 1073741824 else (IntKind.wrap .i64 (r0.2.2.2.2.2 + (IntKind.wrap .i64 (Int.tdiv (IntKind.wrap .i64 ((IntKind.wrap .i64 (r1 - (if (IntKind.wrap .i64 (r0.2.1 - r0.1)) < r1 then (IntKind.wrap .i64 (r0.2.1 - r0.1)) else r1))) * r11)) (IntKind.wrap .i64 (100 * (IntKind.wrap .i64 (r0.1 + (if (IntKind.wrap .i64 (r0.2.1 - r0.1)) < r1 then (IntKind.wrap .i64 (r0.2.1 - r0.1)) else r1)))))))))))) then
        some ((IntKind.wrap .i64 ((IntKind.wrap .i64 (r0.1 + (if (IntKind.wrap .i64 (r0.2.1 - r0.1)) < r1 then (IntKind.wrap .i64 (r0.2.1 - r0.1)) else r1))) + (IntKind.wrap .i64 (1073741824 - (IntKind.wrap .i64 (r0.1 + (if (IntKind.wrap .i64 (r0.2.1 - r0.1)) < r1 then (IntKind.wrap .i64 (r0.2.1 - r0.1)) else r1))))))), (r0.2.1, (r0.2.2.1, (r0.2.2.2.1, (r0.2.2.2.2.1, (IntKind.wrap .i64 ((if 1073741824 < (IntKind.wrap .i64 (r0.2.2.2.2.2 + (IntKind.wrap .i64 (Int.tdiv (IntKind.wrap .i64 ((IntKind.wrap .i64 (r1 - (if (IntKind.wrap .i64 (r0.2.1 - r0.1)) < r1 then (IntKind.wrap .i64 (r0.2.1 - r0.1)) else r1))) * r11)) (IntKind.wrap .i64 (100 * (IntKind.wrap .i64 (r0.1 + (if (IntKind.wrap .i64 (r0.2.1 - r0.1)) < r1 then (IntKind.wrap .i64 (r0.2.1 - r0.1)) else r1))))))))) then 1073741824 else (IntKind.wrap .i64 (r0.2.2.2.2.2 + (IntKind.wrap .i64 (Int.tdiv (IntKind.wrap .i64 ((IntKind.wrap .i64 (r1 - (if (IntKind.wrap .i64 (r0.2.1 - r0.1)) < r1 then (IntKind.wrap .i64 (r0.2.1 - r0.1)) else r1))) * r11)) (IntKind.wrap .i64 (100 * (IntKind.wrap .i64 (r0.1 + (if (IntKind.wrap .i64 (r0.2.1 - r0.1)) < r1 then (IntKind.wrap .i64 (r0.2.1 - r0.1)) else r1)))))))))) - (IntKind.wrap .i64 (1073741824 - (IntKind.wrap .i64 (r0.1 + (if (IntKind.wrap .i64 (r0.2.1 - r0.1)) < r1 then (IntKind.wrap .i64 (r0.2.1 - r0.1)) else r1))))))))))))
      else some ((IntKind.wrap .i64 ((IntKind.wrap .i64 (r0.1 + (if (IntKind.wrap .i64 (r0.2.1 - r0.1)) < r1 then (IntKind.wrap .i64 (r0.2.1 - r0.1)) else r1))) + (if 1073741824 < (IntKind.wrap .i64 (r0.2.2.2.2.2 + (IntKind.wrap .i64 (Int.tdiv (IntKind.wrap .i64 ((IntKind.wrap .i64 (r1 - (if (IntKind.wrap .i64 (r0.2.1 - r0.1)) < r1 then (IntKind.wrap .i64 (r0.2.1 - r0.1)) else r1))) * r11)) (IntKind.wrap .i64 (100 * (IntKind.wrap .i64 (r0.1 + (if (IntKind.wrap .i64 (r0.2.1 - r0.1)) < r1 then (IntKind.wrap .i64 (r0.2.1 - r0.1)) else r1))))))))) then 1073741824 else (IntKind.wrap .i64 (r0.2.2.2.2.2 + (IntKind.wrap .i64 (Int.tdiv (IntKind.wrap .i64 ((IntKind.wrap .i64 (r1 - (if (IntKind.wrap .i64 (r0.2.1 - r0.1)) < r1 then (IntKind.wrap .i64 (r0.2.1 - r0.1)) else r1))) * r11)) (IntKind.wrap .i64 (100 * (IntKind.wrap .i64 (r0.1 + (if (IntKind.wrap .i64 (r0.2.1 - r0.1)) < r1 then (IntKind.wrap .i64 (r0.2.1 - r0.1)) else r1)))))))))))), (r0.2.1, (r0.2.2.1, (r0.2.2.2.1, (r0.2.2.2.2.1, (IntKind.wrap .i64 ((if 1073741824 < (IntKind.wrap .i64 (r0.2.2.2.2.2 + (IntKind.wrap .i64 (Int.tdiv (IntKind.wrap .i64 ((IntKind.wrap .i64 (r1 - (if (IntKind.wrap .i64 (r0.2.1 - r0.1)) < r1 then (IntKind.wrap .i64 (r0.2.1 - r0.1)) else r1))) * r11)) (IntKind.wrap .i64 (100 * (IntKind.wrap .i64 (r0.1 + (if (IntKind.wrap .i64 (r0.2.1 - r0.1)) < r1 then (IntKind.wrap .i64 (r0.2.1 - r0.1)) else r1))))))))) then 1073741824 else (IntKind.wrap .i64 (r0.2.2.2.2.2 + (IntKind.wrap .i64 (Int.tdiv (IntKind.wrap .i64 ((IntKind.wrap .i64 (r1 - (if (IntKind.wrap .i64 (r0.2.1 - r0.1)) < r1 then (IntKind.wrap .i64 (r0.2.1 - r0.1)) else r1))) * r11)) (IntKind.wrap .i64 (100 * (IntKind.wrap .i64 (r0.1 + (if (IntKind.wrap .i64 (r0.2.1 - r0.1)) < r1 then (IntKind.wrap .i64 (r0.2.1 - r0.1)) else r1)))))))))) - (if 1073741824 < (IntKind.wrap .i64 (r0.2.2.2.2.2 + (IntKind.wrap .i64 (Int.tdiv (IntKind.wrap .i64 ((IntKind.wrap .i64 (r1 - (if (IntKind.wrap .i64 (r0.2.1 - r0.1)) < r1 then (IntKind.wrap .i64 (r0.2.1 - r0.1)) else r1))) * r11)) (IntKind.wrap .i64 (100 * (IntKind.wrap .i64 (r0.1 + (if (IntKind.wrap .i64 (r0.2.1 - r0.1)) < r1 then (IntKind.wrap .i64 (r0.2.1 - r0.1)) else r1))))))))) then 1073741824 else (IntKind.wrap .i64 (r0.2.2.2.2.2 + (IntKind.wrap .i64 (Int.tdiv (IntKind.wrap .i64 ((IntKind.wrap .i64 (r1 - (if (IntKind.wrap .i64 (r0.2.1 - r0.1)) < r1 then (IntKind.wrap .i64 (r0.2.1 - r0.1)) else r1))) * r11)) (IntKind.wrap .i64 (100 * (IntKind.wrap .i64 (r0.1 + (if (IntKind.wrap .i64 (r0.2.1 - r0.1)) < r1 then (IntKind.wrap .i64 (r0.2.1 - r0.1)) else r1)))))))))))))))))
    else none
  else bif (r1 == 0) then
    some r0
  else bif (r0.2.2.2.1 == (-1)) then
    (leatref49_keep N a2 0 1125899906842624).bind fun r12 =>
    bif (decide (r0.2.2.1 < r0.1)) then
      (leatref49_Target N (r0.1, (r0.2.1, (r0.1, (r12, (r0.1, r0.2.2.2.2.2))))) a2 a3).bind fun r13 =>
      bif (decide (r0.1 < r13)) then
        (leatref02_MulDiv N (IntKind.wrap .i64 (r13 - r0.1)) r1 r0.1 false).bind fun r14 =>
        bif (decide ((IntKind.wrap .i64 (Int.tdiv (IntKind.wrap .i64 (r1 + 1)) 2)) < (if 1073741824 < (IntKind.wrap .i64 (r0.2.2.2.2.2 + r14.1)) then 1073741824 else (IntKind.wrap .i64 (r0.2.2.2.2.2 + r14.1))))) then
          bif (decide ((IntKind.wrap .i64 (1073741824 - r0.1)) < (IntKind.wrap .i64 (Int.tdiv (IntKind.wrap .i64 (r1 + 1)) 2)))) then
            some ((IntKind.wrap .i64 (r0.1 + (IntKind.wrap .i64 (1073741824 - r0.1)))), (r0.2.1, (r0.1, (r12, (r0.1, (IntKind.wrap .i64 ((if 1073741824 < (IntKind.wrap .i64 (r0.2.2.2.2.2 + r14.1)) then 1073741824 else (IntKind.wrap .i64 (r0.2.2.2.2.2 + r14.1))) - (IntKind.wrap .i64 (1073741824 - r0.1)))))))))
          else some ((IntKind.wrap .i64 (r0.1 + (IntKind.wrap .i64 (Int.tdiv (IntKind.wrap .i64 (r1 + 1)) 2)))), (r0.2.1, (r0.1, (r12, (r0.1, (IntKind.wrap .i64 ((if 1073741824 < (IntKind.wrap .i64 (r0.2.2.2.2.2 + r14.1)) then 1073741824 else (IntKind.wrap .i64 (r0.2.2.2.2.2 + r14.1))) - (IntKind.wrap .i64 (Int.tdiv (IntKind.wrap .i64 (r1 + 1)) 2)))))))))
        else bif (decide ((IntKind.wrap .i64 (1073741824 - r0.1)) < (if 1073741824 < (IntKind.wrap .i64 (r0.2.2.2.2.2 + r14.1)) then 1073741824 else (IntKind.wrap .i64 (r0.2.2.2.2.2 + r14.1))))) then
          some ((IntKind.wrap .i64 (r0.1 + (IntKind.wrap .i64 (1073741824 - r0.1)))), (r0.2.1, (r0.1, (r12, (r0.1, (IntKind.wrap .i64 ((if 1073741824 < (IntKind.wrap .i64 (r0.2.2.2.2.2 + r14.1)) then 1073741824 else (IntKind.wrap .i64 (r0.2.2.2.2.2 + r14.1))) - (IntKind.wrap .i64 (1073741824 - r0.1)))))))))
        else some ((IntKind.wrap .i64 (r0.1 + (if 1073741824 < (IntKind.wrap .i64 (r0.2.2.2.2.2 + r14.1)) then 1073741824 else (IntKind.wrap .i64 (r0.2.2.2.2.2 + r14.1))))), (r0.2.1, (r0.1, (r12, (r0.1, (IntKind.wrap .i64 ((if 1073741824 < (IntKind.wrap .i64 (r0.2.2.2.2.2 + r14.1)) then 1073741824 else (IntKind.wrap .i64 (r0.2.2.2.2.2 + r14.1))) - (if 1073741824 < (IntKind.wrap .i64 (r0.2.2.2.2.2 + r14.1)) then 1073741824 else (IntKind.wrap .i64 (r0.2.2.2.2.2 + r14.1))))))))))
      else (leatref49_Size N a3).bind fun r15 =>
      bif (!(decide ((IntKind.wrap .i64 (100 * r0.1)) = 0))) then
        bif (decide ((IntKind.wrap .i64 (Int.tdiv (IntKind.wrap .i64 (r1 + 1)) 2)) < (if 1073741824 < (IntKind.wrap .i64 (r0.2.2.2.2.2 + (IntKind.wrap .i64 (Int.tdiv (IntKind.wrap .i64 (r1 * r15)) (IntKind.wrap .i64 (100 * r0.1)))))) then 1073741824 else (IntKind.wrap .i64 (r0.2.2.2.2.2 + (IntKind.wrap .i64 (Int.tdiv (IntKind.wrap .i64 (r1 * r15)) (IntKind.wrap .i64 (100 * r0.1))))))))) then
          bif (decide ((IntKind.wrap .i64 (1073741824 - r0.1)) < (IntKind.wrap .i64 (Int.tdiv (IntKind.wrap .i64 (r1 + 1)) 2)))) then
            some ((IntKind.wrap .i64 (r0.1 + (IntKind.wrap .i64 (1073741824 - r0.1)))), (r0.2.1, (r0.1, (r12, (r0.1, (IntKind.wrap .i64 ((if 1073741824 < (IntKind.wrap .i64 (r0.2.2.2.2.2 + (IntKind.wrap .i64 (Int.tdiv (IntKind.wrap .i64 (r1 * r15)) (IntKind.wrap .i64 (100 * r0.1)))))) then 1073741824 else (IntKind.wrap .i64 (r0.2.2.2.2.2 + (IntKind.wrap .i64 (Int.tdiv (IntKind.wrap .i64 (r1 * r15)) (IntKind.wrap .i64 (100 * r0.1))))))) - (IntKind.wrap .i64 (1073741824 - r0.1)))))))))
          else some ((IntKind.wrap .i64 (r0.1 + (IntKind.wrap .i64 (Int.tdiv (IntKind.wrap .i64 (r1 + 1)) 2)))), (r0.2.1, (r0.1, (r12, (r0.1, (IntKind.wrap .i64 ((if 1073741824 < (IntKind.wrap .i64 (r0.2.2.2.2.2 + (IntKind.wrap .i64 (Int.tdiv (IntKind.wrap .i64 (r1 * r15)) (IntKind.wrap .i64 (100 * r0.1)))))) then 1073741824 else (IntKind.wrap .i64 (r0.2.2.2.2.2 + (IntKind.wrap .i64 (Int.tdiv (IntKind.wrap .i64 (r1 * r15)) (IntKind.wrap .i64 (100 * r0.1))))))) - (IntKind.wrap .i64 (Int.tdiv (IntKind.wrap .i64 (r1 + 1)) 2)))))))))
        else bif (decide ((IntKind.wrap .i64 (1073741824 - r0.1)) < (if 1073741824 < (IntKind.wrap .i64 (r0.2.2.2.2.2 + (IntKind.wrap .i64 (Int.tdiv (IntKind.wrap .i64 (r1 * r15)) (IntKind.wrap .i64 (100 * r0.1)))))) then 1073741824 else (IntKind.wrap .i64 (r0.2.2.2.2.2 + (IntKind.wrap .i64 (Int.tdiv (IntKind.wrap .i64 (r1 * r15)) (IntKind.wrap .i64 (100 * r0.1))))))))) then
          some ((IntKind.wrap .i64 (r0.1 + (IntKind.wrap .i64 (1073741824 - r0.1)))), (r0.2.1, (r0.1, (r12, (r0.1, (IntKind.wrap .i64 ((if 1073741824 < (IntKind.wrap .i64 (r0.2.2.2.2.2 + (IntKind.wrap .i64 (Int.tdiv (IntKind.wrap .i64 (r1 * r15)) (IntKind.wrap .i64 (100 * r0.1)))))) then 1073741824 else (IntKind.wrap .i64 (r0.2.2.2.2.2 + (IntKind.wrap .i64 (Int.tdiv (IntKind.wrap .i64 (r1 * r15)) (IntKind.wrap .i64 (100 * r0.1))))))) - (IntKind.wrap .i64 (1073741824 - r0.1)))))))))
        else some ((IntKind.wrap .i64 (r0.1 + (if 1073741824 < (IntKind.wrap .i64 (r0.2.2.2.2.2 + (IntKind.wrap .i64 (Int.tdiv (IntKind.wrap .i64 (r1 * r15)) (IntKind.wrap .i64 (100 * r0.1)))))) then 1073741824 else (IntKind.wrap .i64 (r0.2.2.2.2.2 + (IntKind.wrap .i64 (Int.tdiv (IntKind.wrap .i64 (r1 * r15)) (IntKind.wrap .i64 (100 * r0.1))))))))), (r0.2.1, (r0.1, (r12, (r0.1, (IntKind.wrap .i64 ((if 1073741824 < (IntKind.wrap .i64 (r0.2.2.2.2.2 + (IntKind.wrap .i64 (Int.tdiv (IntKind.wrap .i64 (r1 * r15)) (IntKind.wrap .i64 (100 * r0.1)))))) then 1073741824 else (IntKind.wrap .i64 (r0.2.2.2.2.2 + (IntKind.wrap .i64 (Int.tdiv (IntKind.wrap .i64 (r1 * r15)) (IntKind.wrap .i64 (100 * r0.1))))))) - (if 1073741824 < (IntKind.wrap .i64 (r0.2.2.2.2.2 + (IntKind.wrap .i64 (Int.tdiv (IntKind.wrap .i64 (r1 * r15)) (IntKind.wrap .i64 (100 * r0.1)))))) then 1073741824 else (IntKind.wrap .i64 (r0.2.2.2.2.2 + (IntKind.wrap .i64 (Int.tdiv (IntKind.wrap .i64 (r1 * r15)) (IntKind.wrap .i64 (100 * r0.1))))))))))))))
      else none
    else (leatref49_Target N (r0.1, (r0.2.1, (r0.2.2.1, (r12, (r0.1, r0.2.2.2.2.2))))) a2 a3).bind fun r16 =>
    bif (decide (r0.1 < r16)) then
      (leatref02_MulDiv N (IntKind.wrap .i64 (r16 - r0.1)) r1 r0.1 false).bind fun r17 =>
      bif (decide ((IntKind.wrap .i64 (Int.tdiv (IntKind.wrap .i64 (r1 + 1)) 2)) < (if 1073741824 < (IntKind.wrap .i64 (r0.2.2.2.2.2 + r17.1)) then 1073741824 else (IntKind.wrap .i64 (r0.2.2.2.2.2 + r17.1))))) then
        bif (decide ((IntKind.wrap .i64 (1073741824 - r0.1)) < (IntKind.wrap .i64 (Int.tdiv (IntKind.wrap .i64 (r1 + 1)) 2)))) then
          some ((IntKind.wrap .i64 (r0.1 + (IntKind.wrap .i64 (1073741824 - r0.1)))), (r0.2.1, (r0.2.2.1, (r12, (r0.1, (IntKind.wrap .i64 ((if 1073741824 < (IntKind.wrap .i64 (r0.2.2.2.2.2 + r17.1)) then 1073741824 else (IntKind.wrap .i64 (r0.2.2.2.2.2 + r17.1))) - (IntKind.wrap .i64 (1073741824 - r0.1)))))))))
        else some ((IntKind.wrap .i64 (r0.1 + (IntKind.wrap .i64 (Int.tdiv (IntKind.wrap .i64 (r1 + 1)) 2)))), (r0.2.1, (r0.2.2.1, (r12, (r0.1, (IntKind.wrap .i64 ((if 1073741824 < (IntKind.wrap .i64 (r0.2.2.2.2.2 + r17.1)) then 1073741824 else (IntKind.wrap .i64 (r0.2.2.2.2.2 + r17.1))) - (IntKind.wrap .i64 (Int.tdiv (IntKind.wrap .i64 (r1 + 1)) 2)))))))))
      else bif (decide ((IntKind.wrap .i64 (1073741824 - r0.1)) < (if 1073741824 < (IntKind.wrap .i64 (r0.2.2.2.2.2 + r17.1)) then 1073741824 else (IntKind.wrap .i64 (r0.2.2.2.2.2 + r17.1))))) then
        some ((IntKind.wrap .i64 (r0.1 + (IntKind.wrap .i64 (1073741824 - r0.1)))), (r0.2.1, (r0.2.2.1, (r12, (r0.1, (IntKind.wrap .i64 ((if 1073741824 < (IntKind.wrap .i64 (r0.2.2.2.2.2 + r17.1)) then 1073741824 else (IntKind.wrap .i64 (r0.2.2.2.2.2 + r17.1))) - (IntKind.wrap .i64 (1073741824 - r0.1)))))))))
      else some ((IntKind.wrap .i64 (r0.1 + (if 1073741824 < (IntKind.wrap .i64 (r0.2.2.2.2.2 + r17.1)) then 1073741824 else (IntKind.wrap .i64 (r0.2.2.2.2.2 + r17.1))))), (r0.2.1, (r0.2.2.1, (r12, (r0.1, (IntKind.wrap .i64 ((if 1073741824 < (IntKind.wrap .i64 (r0.2.2.2.2.2 + r17.1)) then 1073741824 else (IntKind.wrap .i64 (r0.2.2.2.2.2 + r17.1))) - (if 1073741824 < (IntKind.wrap .i64 (r0.2.2.2.2.2 + r17.1)) then 1073741824 else (IntKind.wrap .i64 (r0.2.2.2.2.2 + r17.1))))))))))
    else (leatref49_Size N a3).bind fun r18 =>
    bif (!(decide ((IntKind.wrap .i64 (100 * r0.1)) = 0))) then
      bif (decide ((IntKind.wrap .i64 (Int.tdiv (IntKind.wrap .i64 (r1 + 1)) 2)) < (if 1073741824 < (IntKind.wrap .i64 (r0.2.2.2.2.2 + (IntKind.wrap .i64 (Int.tdiv (IntKind.wrap .i64 (r1 * r18)) (IntKind.wrap .i64 (100 * r0.1)))))) then 1073741824 else (IntKind.wrap .i64 (r0.2.2.2.2.2 + (IntKind.wrap .i64 (Int.tdiv (IntKind.wrap .i64 (r1 * r18)) (IntKind.wrap .i64 (100 * r0.1))))))))) then
        bif (decide ((IntKind.wrap .i64 (1073741824 - r0.1)) < (IntKind.wrap .i64 (Int.tdiv (IntKind.wrap .i64 (r1 + 1)) 2)))) then
          some ((IntKind.wrap .i64 (r0.1 + (IntKind.wrap .i64 (1073741824 - r0.1)))), (r0.2.1, (r0.2.2.1, (r12, (r0.1, (IntKind.wrap .i64 ((if 1073741824 < (IntKind.wrap .i64 (r0.2.2.2.2.2 + (IntKind.wrap .i64 (Int.tdiv (IntKind.wrap .i64 (r1 * r18)) (IntKind.wrap .i64 (100 * r0.1)))))) then 1073741824 else (IntKind.wrap .i64 (r0.2.2.2.2.2 + (IntKind.wrap .i64 (Int.tdiv (IntKind.wrap .i64 (r1 * r18)) (IntKind.wrap .i64 (100 * r0.1))))))) - (IntKind.wrap .i64 (1073741824 - r0.1)))))))))
        else some ((IntKind.wrap .i64 (r0.1 + (IntKind.wrap .i64 (Int.tdiv (IntKind.wrap .i64 (r1 + 1)) 2)))), (r0.2.1, (r0.2.2.1, (r12, (r0.1, (IntKind.wrap .i64 ((if 1073741824 < (IntKind.wrap .i64 (r0.2.2.2.2.2 + (IntKind.wrap .i64 (Int.tdiv (IntKind.wrap .i64 (r1 * r18)) (IntKind.wrap .i64 (100 * r0.1)))))) then 1073741824 else (IntKind.wrap .i64 (r0.2.2.2.2.2 + (IntKind.wrap .i64 (Int.tdiv (IntKind.wrap .i64 (r1 * r18)) (IntKind.wrap .i64 (100 * r0.1))))))) - (IntKind.wrap .i64 (Int.tdiv (IntKind.wrap .i64 (r1 + 1)) 2)))))))))
      else bif (decide ((IntKind.wrap .i64 (1073741824 - r0.1)) < (if 1073741824 < (IntKind.wrap .i64 (r0.2.2.2.2.2 + (IntKind.wrap .i64 (Int.tdiv (IntKind.wrap .i64 (r1 * r18)) (IntKind.wrap .i64 (100 * r0.1)))))) then 1073741824 else (IntKind.wrap .i64 (r0.2.2.2.2.2 + (IntKind.wrap .i64 (Int.tdiv (IntKind.wrap .i64 (r1 * r18)) (IntKind.wrap .i64 (100 * r0.1))))))))) then
        some ((IntKind.wrap .i64 (r0.1 + (IntKind.wrap .i64 (1073741824 - r0.1)))), (r0.2.1, (r0.2.2.1, (r12, (r0.1, (IntKind.wrap .i64 ((if 1073741824 < (IntKind.wrap .i64 (r0.2.2.2.2.2 + (IntKind.wrap .i64 (Int.tdiv (IntKind.wrap .i64 (r1 * r18)) (IntKind.wrap .i64 (100 * r0.1)))))) then 1073741824 else (IntKind.wrap .i64 (r0.2.2.2.2.2 + (IntKind.wrap .i64 (Int.tdiv (IntKind.wrap .i64 (r1 * r18)) (IntKind.wrap .i64 (100 * r0.1))))))) - (IntKind.wrap .i64 (1073741824 - r0.1)))))))))
      else some ((IntKind.wrap .i64 (r0.1 + (if 1073741824 < (IntKind.wrap .i64 (r0.2.2.2.2.2 + (IntKind.wrap .i64 (Int.tdiv (IntKind.wrap .i64 (r1 * r18)) (IntKind.wrap .i64 (100 * r0.1)))))) then 1073741824 else (IntKind.wrap .i64 (r0.2.2.2.2.2 + (IntKind.wrap .i64 (Int.tdiv (IntKind.wrap .i64 (r1 * r18)) (IntKind.wrap .i64 (100 * r0.1))))))))), (r0.2.1, (r0.2.2.1, (r12, (r0.1, (IntKind.wrap .i64 ((if 1073741824 < (IntKind.wrap .i64 (r0.2.2.2.2.2 + (IntKind.wrap .i64 (Int.tdiv (IntKind.wrap .i64 (r1 * r18)) (IntKind.wrap .i64 (100 * r0.1)))))) then 1073741824 else (IntKind.wrap .i64 (r0.2.2.2.2.2 + (IntKind.wrap .i64 (Int.tdiv (IntKind.wrap .i64 (r1 * r18)) (IntKind.wrap .i64 (100 * r0.1))))))) - (if 1073741824 < (IntKind.wrap .i64 (r0.2.2.2.2.2 + (IntKind.wrap .i64 (Int.tdiv (IntKind.wrap .i64 (r1 * r18)) (IntKind.wrap .i64 (100 * r0.1)))))) then 1073741824 else (IntKind.wrap .i64 (r0.2.2.2.2.2 + (IntKind.wrap .i64 (Int.tdiv (IntKind.wrap .i64 (r1 * r18)) (IntKind.wrap .i64 (100 * r0.1))))))))))))))
    else none
  else (leatref49_Target N r0 a2 a3).bind fun r19 =>
  bif (decide (r0.1 < r19)) then
    (leatref02_MulDiv N (IntKind.wrap .i64 (r19 - r0.1)) r1 r0.1 false).bind fun r20 =>
    bif (decide ((IntKind.wrap .i64 (Int.tdiv (IntKind.wrap .i64 (r1 + 1)) 2)) < (if 1073741824 < (IntKind.wrap .i64 (r0.2.2.2.2.2 + r20.1)) then 1073741824 else (IntKind.wrap .i64 (r0.2.2.2.2.2 + r20.1))))) then
      bif (decide ((IntKind.wrap .i64 (1073741824 - r0.1)) < (IntKind.wrap .i64 (Int.tdiv (IntKind.wrap .i64 (r1 + 1)) 2)))) then
        some ((IntKind.wrap .i64 (r0.1 + (IntKind.wrap .i64 (1073741824 - r0.1)))), (r0.2.1, (r0.2.2.1, (r0.2.2.2.1, (r0.2.2.2.2.1, (IntKind.wrap .i64 ((if 1073741824 < (IntKind.wrap .i64 (r0.2.2.2.2.2 + r20.1)) then 1073741824 else (IntKind.wrap .i64 (r0.2.2.2.2.2 + r20.1))) - (IntKind.wrap .i64 (1073741824 - r0.1)))))))))
      else some ((IntKind.wrap .i64 (r0.1 + (IntKind.wrap .i64 (Int.tdiv (IntKind.wrap .i64 (r1 + 1)) 2)))), (r0.2.1, (r0.2.2.1, (r0.2.2.2.1, (r0.2.2.2.2.1, (IntKind.wrap .i64 ((if 1073741824 < (IntKind.wrap .i64 (r0.2.2.2.2.2 + r20.1)) then 1073741824 else (IntKind.wrap .i64 (r0.2.2.2.2.2 + r20.1))) - (IntKind.wrap .i64 (Int.tdiv (IntKind.wrap .i64 (r1 + 1)) 2)))))))))
    else bif (decide ((IntKind.wrap .i64 (1073741824 - r0.1)) < (if 1073741824 < (IntKind.wrap .i64 (r0.2.2.2.2.2 + r20.1)) then 1073741824 else (IntKind.wrap .i64 (r0.2.2.2.2.2 + r20.1))))) then
      some ((IntKind.wrap .i64 (r0.1 + (IntKind.wrap .i64 (1073741824 - r0.1)))), (r0.2.1, (r0.2.2.1, (r0.2.2.2.1, (r0.2.2.2.2.1, (IntKind.wrap .i64 ((if 1073741824 < (IntKind.wrap .i64 (r0.2.2.2.2.2 + r20.1)) then 1073741824 else (IntKind.wrap .i64 (r0.2.2.2.2.2 + r20.1))) - (IntKind.wrap .i64 (1073741824 - r0.1)))))))))
    else some ((IntKind.wrap .i64 (r0.1 + (if 1073741824 < (IntKind.wrap .i64 (r0.2.2.2.2.2 + r20.1)) then 1073741824 else (IntKind.wrap .i64 (r0.2.2.2.2.2 + r20.1))))), (r0.2.1, (r0.2.2.1, (r0.2.2.2.1, (r0.2.2.2.2.1, (IntKind.wrap .i64 ((if 1073741824 < (IntKind.wrap .i64 (r0.2.2.2.2.2 + r20.1)) then 1073741824 else (IntKind.wrap .i64 (r0.2.2.2.2.2 + r20.1))) - (if 1073741824 < (IntKind.wrap .i64 (r0.2.2.2.2.2 + r20.1)) then 1073741824 else (IntKind.wrap .i64 (r0.2.2.2.2.2 + r20.1))))))))))
  else (leatref49_Size N a3).bind fun r21 =>
  bif (!(decide ((IntKind.wrap .i64 (100 * r0.1)) = 0))) then
    bif (decide ((IntKind.wrap .i64 (Int.tdiv (IntKind.wrap .i64 (r1 + 1)) 2)) < (if 1073741824 < (IntKind.wrap .i64 (r0.2.2.2.2.2 + (IntKind.wrap .i64 (Int.tdiv (IntKind.wrap .i64 (r1 * r21)) (IntKind.wrap .i64 (100 * r0.1)))))) then 1073741824 else (IntKind.wrap .i64 (r0.2.2.2.2.2 + (IntKind.wrap .i64 (Int.tdiv (IntKind.wrap .i64 (r1 * r21)) (IntKind.wrap .i64 (100 * r0.1))))))))) then
      bif (decide ((IntKind.wrap .i64 (1073741824 - r0.1)) < (IntKind.wrap .i64 (Int.tdiv (IntKind.wrap .i64 (r1 + 1)) 2)))) then
        some ((IntKind.wrap .i64 (r0.1 + (IntKind.wrap .i64 (1073741824 - r0.1)))), (r0.2.1, (r0.2.2.1, (r0.2.2.2.1, (r0.2.2.2.2.1, (IntKind.wrap .i64 ((if 1073741824 < (IntKind.wrap .i64 (r0.2.2.2.2.2 + (IntKind.wrap .i64 (Int.tdiv (IntKind.wrap .i64 (r1 * r21)) (IntKind.wrap .i64 (100 * r0.1)))))) then 1073741824 else (IntKind.wrap .i64 (r0.2.2.2.2.2 + (IntKind.wrap .i64 (Int.tdiv (IntKind.wrap .i64 (r1 * r21)) (IntKind.wrap .i64 (100 * r0.1))))))) - (IntKind.wrap .i64 (1073741824 - r0.1)))))))))
      else some ((IntKind.wrap .i64 (r0.1 + (IntKind.wrap .i64 (Int.tdiv (IntKind.wrap .i64 (r1 + 1)) 2)))), (r0.2.1, (r0.2.2.1, (r0.2.2.2.1, (r0.2.2.2.2.1, (IntKind.wrap .i64 ((if 1073741824 < (IntKind.wrap .i64 (r0.2.2.2.2.2 + (IntKind.wrap .i64 (Int.tdiv (IntKind.wrap .i64 (r1 * r21)) (IntKind.wrap .i64 (100 * r0.1)))))) then 1073741824 else (IntKind.wrap .i64 (r0.2.2.2.2.2 + (IntKind.wrap .i64 (Int.tdiv (IntKind.wrap .i64 (r1 * r21)) (IntKind.wrap .i64 (100 * r0.1))))))) - (IntKind.wrap .i64 (Int.tdiv (IntKind.wrap .i64 (r1 + 1)) 2)))))))))
    else bif (decide ((IntKind.wrap .i64 (1073741824 - r0.1)) < (if 1073741824 < (IntKind.wrap .i64 (r0.2.2.2.2.2 + (IntKind.wrap .i64 (Int.tdiv (IntKind.wrap .i64 (r1 * r21)) (IntKind.wrap .i64 (100 * r0.1)))))) then 1073741824 else (IntKind.wrap .i64 (r0.2.2.2.2.2 + (IntKind.wrap .i64 (Int.tdiv (IntKind.wrap .i64 (r1 * r21)) (IntKind.wrap .i64 (100 * r0.1))))))))) then
      some ((IntKind.wrap .i64 (r0.1 + (IntKind.wrap .i64 (1073741824 - r0.1)))), (r0.2.1, (r0.2.2.1, (r0.2.2.2.1, (r0.2.2.2.2.1, (IntKind.wrap .i64 ((if 1073741824 < (IntKind.wrap .i64 (r0.2.2.2.2.2 + (IntKind.wrap .i64 (Int.tdiv (IntKind.wrap .i64 (r1 * r21)) (IntKind.wrap .i64 (100 * r0.1)))))) then 1073741824 else (IntKind.wrap .i64 (r0.2.2.2.2.2 + (IntKind.wrap .i64 (Int.tdiv (IntKind.wrap .i64 (r1 * r21)) (IntKind.wrap .i64 (100 * r0.1))))))) - (IntKind.wrap .i64 (1073741824 - r0.1)))))))))
    else some ((IntKind.wrap .i64 (r0.1 + (if 1073741824 < (IntKind.wrap .i64 (r0.2.2.2.2.2 + (IntKind.wrap .i64 (Int.tdiv (IntKind.wrap .i64 (r1 * r21)) (IntKind.wrap .i64 (100 * r0.1)))))) then 1073741824 else (IntKind.wrap .i64 (r0.2.2.2.2.2 + (IntKind.wrap .i64 (Int.tdiv (IntKind.wrap .i64 (r1 * r21)) (IntKind.wrap .i64 (100 * r0.1))))))))), (r0.2.1, (r0.2.2.1, (r0.2.2.2.1, (r0.2.2.2.2.1, (IntKind.wrap .i64 ((if 1073741824 < (IntKind.wrap .i64 (r0.2.2.2.2.2 + (IntKind.wrap .i64 (Int.tdiv (IntKind.wrap .i64 (r1 * r21)) (IntKind.wrap .i64 (100 * r0.1)))))) then 1073741824 else (IntKind.wrap .i64 (r0.2.2.2.2.2 + (IntKind.wrap .i64 (Int.tdiv (IntKind.wrap .i64 (r1 * r21)) (IntKind.wrap .i64 (100 * r0.1))))))) - (if 1073741824 < (IntKind.wrap .i64 (r0.2.2.2.2.2 + (IntKind.wrap .i64 (Int.tdiv (IntKind.wrap .i64 (r1 * r21)) (IntKind.wrap .i64 (100 * r0.1)))))) then 1073741824 else (IntKind.wrap .i64 (r0.2.2.2.2.2 + (IntKind.wrap .i64 (Int.tdiv (IntKind.wrap .i64 (r1 * r21)) (IntKind.wrap .i64 (100 * r0.1))))))))))))))
  else none
def leatlaw49_CubicHears (N : Nat) (a0 : (Int × (Int × (Int × (Int × (Int × Int)))))) (a1 : Int) (a2 : (Int × Int)) : Option Bool :=
  (cubic_Target N a0 a2.1 a2.2).bind fun r0 =>
  (leatref49_Target N a0 a2.1 a2.2).bind fun r1 =>
  bif ((r0 == r1) == true) then
    (cubic_Hear N a0 a1 a2.1 a2.2).bind fun r2 =>
    (leatref49_Hear N a0 a1 a2.1 a2.2).bind fun r3 =>
    bif (((r2.1 == r3.1) && ((r2.2.1 == r3.2.1) && ((r2.2.2.1 == r3.2.2.1) && ((r2.2.2.2.1 == r3.2.2.2.1) && ((r2.2.2.2.2.1 == r3.2.2.2.2.1) && ((r2.2.2.2.2.2 == r3.2.2.2.2.2) && true)))))) == true) then
      (leatlaw49_works N).bind fun r4 =>
      some r4
    else some false
  else some false
def leatlaw49_CubicKeeps (N : Nat) (a0 : (Int × (Int × (Int × (Int × (Int × Int)))))) (a1 : (Int × Int)) (a2 : (Int × (Int × Int))) : Option Bool :=
  (leatref49_Within N a0 a1.2).bind fun r0 =>
  (cubic_Hear N r0 (if 16777216 < (if 0 > a1.1 then 0 else a1.1) then 16777216 else (if 0 > a1.1 then 0 else a1.1)) a2.1 a1.2).bind fun r1 =>
  (cubic_Cut N r0 a1.2).bind fun r2 =>
  (cubic_Target N r0 (if a2.2.1 < a2.1 then a2.2.1 else a2.1) a1.2).bind fun r3 =>
  (cubic_Target N r0 (if a2.2.1 > a2.1 then a2.2.1 else a2.1) a1.2).bind fun r4 =>
  (cubic_Root N (if 1152921504606846976 < (if 0 > a2.2.2 then 0 else a2.2.2) then 1152921504606846976 else (if 0 > a2.2.2 then 0 else a2.2.2))).bind fun r5 =>
  bif ((decide (r0.1 ≤ r1.1)) == true) then
    bif ((decide ((IntKind.wrap .i64 (r1.1 - r0.1)) ≤ (if 16777216 < (if 0 > a1.1 then 0 else a1.1) then 16777216 else (if 0 > a1.1 then 0 else a1.1)))) == true) then
      bif ((decide (r2.1 ≤ r0.1)) == true) then
        bif ((decide ((0 : Int) < r2.1)) == true) then
          bif ((decide (r3 ≤ r4)) == true) then
            (leatref49_Size N a1.2).bind fun r6 =>
            bif ((decide (r6 ≤ r3)) == true) then
              bif ((decide ((IntKind.wrap .i64 ((IntKind.wrap .i64 (r5 * r5)) * r5)) ≤ (if 1152921504606846976 < (if 0 > a2.2.2 then 0 else a2.2.2) then 1152921504606846976 else (if 0 > a2.2.2 then 0 else a2.2.2)))) == true) then
                bif ((decide ((if 1152921504606846976 < (if 0 > a2.2.2 then 0 else a2.2.2) then 1152921504606846976 else (if 0 > a2.2.2 then 0 else a2.2.2)) < (IntKind.wrap .i64 ((IntKind.wrap .i64 ((IntKind.wrap .i64 (r5 + 1)) * (IntKind.wrap .i64 (r5 + 1)))) * (IntKind.wrap .i64 (r5 + 1)))))) == true) then
                  (leatlaw49_works N).bind fun r7 =>
                  some r7
                else some false
              else some false
            else some false
          else some false
        else some false
      else some false
    else some false
  else some false
def link_within (N : Nat) (a0 : (Int × (Int × Int))) : Option (Int × (Int × Int)) :=
  (sat_Clamp N a0.1 1 1099511627776).bind fun r0 =>
  (sat_Clamp N a0.2.1 0 1152921504606846976).bind fun r1 =>
  (sat_Clamp N a0.2.2 0 1152921504606846976).bind fun r2 =>
  some (r0, (r1, r2))
def sat_Div (_N : Nat) (a0 : Int) (a1 : Int) : Option Int :=
  bif (a1 == 0) then
    some 0
  else bif ((a0 == (-9223372036854775808)) == true) then
    bif (a1 == (-1)) then
      some 9223372036854775807
    else bif (!(decide (a1 = 0))) then
      bif (!(decide (a1 = 0))) then
        bif ((!((Int.tmod a0 a1) == 0)) == true) then
          bif (!((decide (a0 < 0)) == (decide (a1 < 0)))) then
            some (IntKind.wrap .i64 ((IntKind.wrap .i64 (Int.tdiv a0 a1)) - 1))
          else some (IntKind.wrap .i64 (Int.tdiv a0 a1))
        else some (IntKind.wrap .i64 (Int.tdiv a0 a1))
      else none
    else none
  else bif (!(decide (a1 = 0))) then
    bif (!(decide (a1 = 0))) then
      bif ((!((Int.tmod a0 a1) == 0)) == true) then
        bif (!((decide (a0 < 0)) == (decide (a1 < 0)))) then
          some (IntKind.wrap .i64 ((IntKind.wrap .i64 (Int.tdiv a0 a1)) - 1))
        else some (IntKind.wrap .i64 (Int.tdiv a0 a1))
      else some (IntKind.wrap .i64 (Int.tdiv a0 a1))
    else none
  else none
def link_Span (N : Nat) (a0 : Int) (a1 : Int) : Option Int :=
  (sat_Clamp N a0 1 65536).bind fun r0 =>
  (sat_Clamp N a1 1 1099511627776).bind fun r1 =>
  (sat_Div N (IntKind.wrap .i64 ((IntKind.wrap .i64 (0 - r0)) * 1000000)) r1).bind fun r2 =>
  some (IntKind.wrap .i64 (0 - r2))
def link_Take (N : Nat) (a0 : (Int × (Int × Int))) (a1 : Int) (a2 : Int) : Option ((Int × (Int × Int)) × (Int × Int)) :=
  (link_within N a0).bind fun r0 =>
  (sat_Clamp N a1 0 1125899906842624).bind fun r1 =>
  (link_Span N a2 r0.1).bind fun r2 =>
  (link_within N (r0.1, ((IntKind.wrap .i64 ((if r0.2.1 > r1 then r0.2.1 else r1) + r2)), (IntKind.wrap .i64 (r0.2.2 + r2))))).bind fun r3 =>
  some (r3, ((if r0.2.1 > r1 then r0.2.1 else r1), (IntKind.wrap .i64 ((if r0.2.1 > r1 then r0.2.1 else r1) + r2))))
def leatref37_keep (_N : Nat) (a0 : Int) (a1 : Int) (a2 : Int) : Option Int :=
  some (if a2 < (if a1 > a0 then a1 else a0) then a2 else (if a1 > a0 then a1 else a0))
def leatref37_Within (N : Nat) (a0 : (Int × (Int × Int))) : Option (Int × (Int × Int)) :=
  (leatref37_keep N a0.1 1 1099511627776).bind fun r0 =>
  (leatref37_keep N a0.2.1 0 1152921504606846976).bind fun r1 =>
  (leatref37_keep N a0.2.2 0 1152921504606846976).bind fun r2 =>
  some (r0, (r1, r2))
def leatref37_Span (N : Nat) (a0 : Int) (a1 : Int) : Option Int :=
  (leatref37_keep N a1 1 1099511627776).bind fun r0 =>
  (leatref37_keep N a0 1 65536).bind fun r1 =>
  bif (!(decide (r0 = 0))) then
    some (IntKind.wrap .i64 (Int.tdiv (IntKind.wrap .i64 ((IntKind.wrap .i64 ((IntKind.wrap .i64 (r1 * 1000000)) + r0)) - 1)) r0))
  else none
def leatref37_Take (N : Nat) (a0 : (Int × (Int × Int))) (a1 : Int) (a2 : Int) : Option ((Int × (Int × Int)) × (Int × Int)) :=
  (leatref37_Within N a0).bind fun r0 =>
  (leatref37_keep N a1 0 1125899906842624).bind fun r1 =>
  (leatref37_Span N a2 r0.1).bind fun r2 =>
  (leatref37_Within N (r0.1, ((IntKind.wrap .i64 ((if r0.2.1 > r1 then r0.2.1 else r1) + r2)), (IntKind.wrap .i64 ((IntKind.wrap .i64 (r0.2.2 + (IntKind.wrap .i64 ((if r0.2.1 > r1 then r0.2.1 else r1) + r2)))) - (if r0.2.1 > r1 then r0.2.1 else r1)))))).bind fun r3 =>
  some (r3, ((if r0.2.1 > r1 then r0.2.1 else r1), (IntKind.wrap .i64 ((if r0.2.1 > r1 then r0.2.1 else r1) + r2))))
def link_Room (N : Nat) (a0 : Int) (a1 : Int) : Option Int :=
  (sat_Clamp N a0 1 1099511627776).bind fun r0 =>
  (sat_Clamp N a1 0 1125899906842624).bind fun r1 =>
  (sat_Mul N r0 (IntKind.wrap .i64 (Int.tdiv r1 1000000))).bind fun r2 =>
  (sat_Add N r2 (IntKind.wrap .i64 (Int.tdiv (IntKind.wrap .i64 (r0 * (Int.tmod r1 1000000))) 1000000))).bind fun r3 =>
  some r3
def leatref37_Room (N : Nat) (a0 : Int) (a1 : Int) : Option Int :=
  (leatref37_keep N a0 1 1099511627776).bind fun r0 =>
  (leatref37_keep N a1 0 1125899906842624).bind fun r1 =>
  (leatref02_MulDiv N r0 r1 1000000 false).bind fun r2 =>
  bif (!(r2.2 == 0)) then
    some 9223372036854775807
  else some r2.1
def link_Idle (N : Nat) (a0 : (Int × (Int × Int))) (a1 : Int) : Option Bool :=
  (sat_Clamp N a1 0 1125899906842624).bind fun r0 =>
  (link_within N a0).bind fun r1 =>
  some (decide (r1.2.1 ≤ r0))
def leatlaw37_works (N : Nat) : Option Bool :=
  (link_Span N 1500 1250000).bind fun r0 =>
  some (r0 == 1200)
def leatlaw37_LinkTakes (N : Nat) (a0 : (Int × (Int × Int))) (a1 : Int) (a2 : Int) : Option Bool :=
  (link_Take N a0 a1 a2).bind fun r0 =>
  (leatref37_Take N a0 a1 a2).bind fun r1 =>
  bif (((r0.1.1 == r1.1.1) && ((r0.1.2.1 == r1.1.2.1) && ((r0.1.2.2 == r1.1.2.2) && true))) == true) then
    bif ((r0.2.1 == r1.2.1) == true) then
      bif ((r0.2.2 == r1.2.2) == true) then
        (link_Span N a2 a0.1).bind fun r2 =>
        (leatref37_Span N a2 a0.1).bind fun r3 =>
        bif ((r2 == r3) == true) then
          (link_Room N a0.1 a1).bind fun r4 =>
          (leatref37_Room N a0.1 a1).bind fun r5 =>
          bif ((r4 == r5) == true) then
            (link_Idle N a0 a1).bind fun r6 =>
            (leatref37_Within N a0).bind fun r7 =>
            bif ((r6 == (decide (r7.2.1 ≤ (if 1125899906842624 < (if 0 > a1 then 0 else a1) then 1125899906842624 else (if 0 > a1 then 0 else a1))))) == true) then
              (leatlaw37_works N).bind fun r8 =>
              some r8
            else some false
          else some false
        else some false
      else some false
    else some false
  else some false
def leatlaw37_LinkRuns_L5 (N : Nat) (F : ((Int × (Int × Unit)) × ((List (Int × Int)) × ((Int × (Int × (Int × Unit))) × ((List Int) × ((List Int) × ((List Int) × Unit)))))) → Option (((Bool × Unit) × Unit) ⊕ (Unit × ((Int × (Int × (Int × Unit))) × ((List Int) × ((List Int) × ((List Int) × Unit))))))) (x : ((Int × (Int × Unit)) × ((List (Int × Int)) × ((Int × (Int × (Int × Unit))) × ((List Int) × ((List Int) × ((List Int) × Unit))))))) : Option (((Bool × Unit) × Unit) ⊕ (Unit × ((Int × (Int × (Int × Unit))) × ((List Int) × ((List Int) × ((List Int) × Unit)))))) :=
  bif ((decide (x.1.2.1 < (((x.2.1).length : Nat) : Int))) == true) then
    bif (decide (x.1.2.1 < 40)) then
      bif ((decide ((0 : Int) ≤ x.1.2.1)) && (decide (x.1.2.1 < (((x.2.1).length : Nat) : Int)))) then
        bif ((decide ((0 : Int) ≤ x.1.2.1)) && (decide (x.1.2.1 < (((x.2.1).length : Nat) : Int)))) then
          (link_Take N (x.2.2.1.1, (x.2.2.1.2.1, x.2.2.1.2.2.1)) (IntKind.wrap .i64 (x.1.1 + (IntKind.wrap .i64 (x.2.1.getD (x.1.2.1).toNat (0, 0)).1))) (IntKind.wrap .i64 ((IntKind.wrap .i64 (x.2.1.getD (x.1.2.1).toNat (0, 0)).2) + 1))).bind fun r0 =>
          bif ((decide (r0.2.1 < (IntKind.wrap .i64 (x.1.1 + (IntKind.wrap .i64 (x.2.1.getD (x.1.2.1).toNat (0, 0)).1))))) == false) then
            bif ((decide (r0.2.1 < x.2.2.1.2.1)) == false) then
              bif ((!(r0.2.1 == (if x.2.2.1.2.1 > (IntKind.wrap .i64 (x.1.1 + (IntKind.wrap .i64 (x.2.1.getD (x.1.2.1).toNat (0, 0)).1))) then x.2.2.1.2.1 else (IntKind.wrap .i64 (x.1.1 + (IntKind.wrap .i64 (x.2.1.getD (x.1.2.1).toNat (0, 0)).1)))))) == false) then
                bif ((decide (r0.2.2 ≤ r0.2.1)) == false) then
                  bif ((!(r0.1.2.1 == r0.2.2)) == false) then
                    bif ((!((IntKind.wrap .i64 (r0.1.2.2 - x.2.2.1.2.2.1)) == (IntKind.wrap .i64 (r0.2.2 - r0.2.1)))) == false) then
                      (link_Idle N r0.1 (IntKind.wrap .i64 (r0.2.2 - 1))).bind fun r1 =>
                      bif r1 then
                        some (.inl ((false, ()), ()))
                      else bif (decide ((((x.2.2.2.1).length + (([r0.2.1] : List Int)).length) * 8) ≤ 140737488355328)) then
                        bif (decide ((((x.2.2.2.2.1).length + (([r0.2.2] : List Int)).length) * 8) ≤ 140737488355328)) then
                          bif (decide ((((x.2.2.2.2.2.1).length + (([(IntKind.wrap .i64 ((IntKind.wrap .i64 (x.2.1.getD (x.1.2.1).toNat (0, 0)).2) + 1))] : List Int)).length) * 8) ≤ 140737488355328)) then
                            F (((IntKind.wrap .i64 (x.1.1 + (IntKind.wrap .i64 (x.2.1.getD (x.1.2.1).toNat (0, 0)).1))), ((IntKind.wrap .i64 (x.1.2.1 + 1)), ())), (x.2.1, ((r0.1.1, (r0.1.2.1, (r0.1.2.2, ()))), ((x.2.2.2.1 ++ ([r0.2.1] : List Int)), ((x.2.2.2.2.1 ++ ([r0.2.2] : List Int)), ((x.2.2.2.2.2.1 ++ ([(IntKind.wrap .i64 ((IntKind.wrap .i64 (x.2.1.getD (x.1.2.1).toNat (0, 0)).2) + 1))] : List Int)), ()))))))
                          else none
                        else none
                      else none
                    else some (.inl ((false, ()), ()))
                  else some (.inl ((false, ()), ()))
                else some (.inl ((false, ()), ()))
              else some (.inl ((false, ()), ()))
            else some (.inl ((false, ()), ()))
          else some (.inl ((false, ()), ()))
        else none
      else none
    else some (.inr ((), ((x.2.2.1.1, (x.2.2.1.2.1, (x.2.2.1.2.2.1, ()))), (x.2.2.2.1, (x.2.2.2.2.1, (x.2.2.2.2.2.1, ()))))))
  else some (.inr ((), ((x.2.2.1.1, (x.2.2.1.2.1, (x.2.2.1.2.2.1, ()))), (x.2.2.2.1, (x.2.2.2.2.1, (x.2.2.2.2.2.1, ()))))))
def leatlaw37_LinkRuns_L20 (N : Nat) (F : ((Int × (Int × (Int × (Int × (Int × Unit))))) × ((Int × (Int × (Int × Unit))) × ((List Int) × ((List Int) × ((List Int) × Unit))))) → Option (((Bool × Unit) × Unit) ⊕ ((Int × (Int × Unit)) × ((Int × (Int × (Int × Unit))) × ((List Int) × ((List Int) × ((List Int) × Unit))))))) (x : ((Int × (Int × (Int × (Int × (Int × Unit))))) × ((Int × (Int × (Int × Unit))) × ((List Int) × ((List Int) × ((List Int) × Unit)))))) : Option (((Bool × Unit) × Unit) ⊕ ((Int × (Int × Unit)) × ((Int × (Int × (Int × Unit))) × ((List Int) × ((List Int) × ((List Int) × Unit)))))) :=
  bif (decide (x.1.2.2.1 < (((x.2.2.1).length : Nat) : Int))) then
    bif ((decide ((0 : Int) ≤ x.1.2.2.1)) && (decide (x.1.2.2.1 < (((x.2.2.2.2.1).length : Nat) : Int)))) then
      bif ((decide ((0 : Int) ≤ x.1.2.2.1)) && (decide (x.1.2.2.1 < (((x.2.2.2.1).length : Nat) : Int)))) then
        bif ((decide ((0 : Int) ≤ x.1.1)) && (decide (x.1.1 < (((x.2.2.1).length : Nat) : Int)))) then
          (link_Room N x.2.1.1 (IntKind.wrap .i64 ((x.2.2.2.1.getD (x.1.2.2.1).toNat 0) - (x.2.2.1.getD (x.1.1).toNat 0)))).bind fun r0 =>
          bif (decide (r0 < (IntKind.wrap .i64 (x.1.2.1 + (x.2.2.2.2.1.getD (x.1.2.2.1).toNat 0))))) then
            some (.inl ((false, ()), ()))
          else F ((x.1.1, ((IntKind.wrap .i64 (x.1.2.1 + (x.2.2.2.2.1.getD (x.1.2.2.1).toNat 0))), ((IntKind.wrap .i64 (x.1.2.2.1 + 1)), (x.1.2.2.2.1, (x.1.2.2.2.2.1, ()))))), ((x.2.1.1, (x.2.1.2.1, (x.2.1.2.2.1, ()))), (x.2.2.1, (x.2.2.2.1, (x.2.2.2.2.1, ())))))
        else none
      else none
    else none
  else some (.inr ((x.1.2.2.2.1, (x.1.2.2.2.2.1, ())), ((x.2.1.1, (x.2.1.2.1, (x.2.1.2.2.1, ()))), (x.2.2.1, (x.2.2.2.1, (x.2.2.2.2.1, ()))))))
def leatlaw37_LinkRuns_L16 (N : Nat) (F : ((Int × (Int × Unit)) × ((Int × (Int × (Int × Unit))) × ((List Int) × ((List Int) × ((List Int) × Unit))))) → Option (((Bool × Unit) × Unit) ⊕ (Unit × Unit))) (x : ((Int × (Int × Unit)) × ((Int × (Int × (Int × Unit))) × ((List Int) × ((List Int) × ((List Int) × Unit)))))) : Option (((Bool × Unit) × Unit) ⊕ (Unit × Unit)) :=
  bif (decide (x.1.2.1 < x.1.1)) then
    (iter (leatlaw37_LinkRuns_L20 N) N ((x.1.2.1, (0, (x.1.2.1, (x.1.1, (x.1.2.1, ()))))), ((x.2.1.1, (x.2.1.2.1, (x.2.1.2.2.1, ()))), (x.2.2.1, (x.2.2.2.1, (x.2.2.2.2.1, ())))))).bind fun r0 =>
    match r0 with
    | .inl r1 =>
      some (.inl ((r1.1.1, ()), ()))
    | .inr r2 =>
      F ((r2.1.1, ((IntKind.wrap .i64 (r2.1.2.1 + 1)), ())), ((r2.2.1.1, (r2.2.1.2.1, (r2.2.1.2.2.1, ()))), (r2.2.2.1, (r2.2.2.2.1, (r2.2.2.2.2.1, ())))))
  else some (.inr ((), ()))
def leatlaw37_LinkRuns (N : Nat) (a0 : Int) (a1 : (List (Int × Int))) : Option Bool :=
  (iter (leatlaw37_LinkRuns_L5 N) N ((0, (0, ())), (a1, (((IntKind.wrap .i64 ((IntKind.wrap .i64 a0) + 1)), (0, (0, ()))), (([] : List Int), (([] : List Int), (([] : List Int), ()))))))).bind fun r0 =>
  match r0 with
  | .inl r1 =>
    some r1.1.1
  | .inr r2 =>
    (iter (leatlaw37_LinkRuns_L16 N) N (((((r2.2.2.1).length : Nat) : Int), (0, ())), ((r2.2.1.1, (r2.2.1.2.1, (r2.2.1.2.2.1, ()))), (r2.2.2.1, (r2.2.2.2.1, (r2.2.2.2.2.1, ())))))).bind fun r3 =>
    match r3 with
    | .inl r4 =>
      some r4.1.1
    | .inr _ =>
      (leatlaw37_works N).bind fun r6 =>
      some r6
end Go.Proofs.Ytakjmminaolfnaa.W
