/- The functions of the seat, as the evaluator tells them: the texts alone. Printed by genW.py. -/
import Derived.Test.YtakjmminaolfnaaEvQ
namespace Go.Proofs.Ytakjmminaolfnaa.W
open Go.Ev Go.RowKit
def leatref49_keep (_N : Nat) (a0 : Int) (a1 : Int) (a2 : Int) : Option Int :=
  some (if a2 < (if a1 > a0 then a1 else a0) then a2 else (if a1 > a0 then a1 else a0))
def leatref49_Size (N : Nat) (a0 : Int) : Option Int :=
  (leatref49_keep N a0 1 65536).bind fun r0 =>
  some r0
def sat_Clamp (_N : Nat) (a0 : Int) (a1 : Int) (a2 : Int) : Option Int :=
  some (if (if a2 < a0 then a2 else a0) > a1 then (if a2 < a0 then a2 else a0) else a1)
def cubic_size (N : Nat) (a0 : Int) : Option Int :=
  (sat_Clamp N a0 1 65536).bind fun r0 =>
  some r0
def cubic_within (N : Nat) (a0 : (Int × (Int × (Int × (Int × (Int × Int)))))) (a1 : Int) : Option (Int × (Int × (Int × (Int × (Int × Int))))) :=
  (cubic_size N a1).bind fun r0 =>
  (sat_Clamp N a0.1 r0 1073741824).bind fun r1 =>
  (sat_Clamp N a0.2.1 0 1073741824).bind fun r2 =>
  (sat_Clamp N a0.2.2.1 0 1073741824).bind fun r3 =>
  (sat_Clamp N a0.2.2.2.1 (-1) 1125899906842624).bind fun r4 =>
  (sat_Clamp N a0.2.2.2.2.1 0 1073741824).bind fun r5 =>
  (sat_Clamp N a0.2.2.2.2.2 0 1073741824).bind fun r6 =>
  some (r1, (r2, (r3, (r4, (r5, r6)))))
def cubic_Cut (N : Nat) (a0 : (Int × (Int × (Int × (Int × (Int × Int)))))) (a1 : Int) : Option (Int × (Int × (Int × (Int × (Int × Int))))) :=
  (cubic_within N a0 a1).bind fun r0 =>
  (cubic_size N a1).bind fun r1 =>
  bif (decide (r0.1 < r0.2.2.1)) then
    some ((if (if r0.1 < (IntKind.wrap .i64 (2 * r1)) then r0.1 else (IntKind.wrap .i64 (2 * r1))) > (IntKind.wrap .i64 (Int.tdiv (IntKind.wrap .i64 (r0.1 * 7)) 10)) then (if r0.1 < (IntKind.wrap .i64 (2 * r1)) then r0.1 else (IntKind.wrap .i64 (2 * r1))) else (IntKind.wrap .i64 (Int.tdiv (IntKind.wrap .i64 (r0.1 * 7)) 10))), ((if (if r0.1 < (IntKind.wrap .i64 (2 * r1)) then r0.1 else (IntKind.wrap .i64 (2 * r1))) > (IntKind.wrap .i64 (Int.tdiv (IntKind.wrap .i64 (r0.1 * 7)) 10)) then (if r0.1 < (IntKind.wrap .i64 (2 * r1)) then r0.1 else (IntKind.wrap .i64 (2 * r1))) else (IntKind.wrap .i64 (Int.tdiv (IntKind.wrap .i64 (r0.1 * 7)) 10))), ((IntKind.wrap .i64 (Int.tdiv (IntKind.wrap .i64 (r0.1 * 17)) 20)), ((-1), (0, 0)))))
  else some ((if (if r0.1 < (IntKind.wrap .i64 (2 * r1)) then r0.1 else (IntKind.wrap .i64 (2 * r1))) > (IntKind.wrap .i64 (Int.tdiv (IntKind.wrap .i64 (r0.1 * 7)) 10)) then (if r0.1 < (IntKind.wrap .i64 (2 * r1)) then r0.1 else (IntKind.wrap .i64 (2 * r1))) else (IntKind.wrap .i64 (Int.tdiv (IntKind.wrap .i64 (r0.1 * 7)) 10))), ((if (if r0.1 < (IntKind.wrap .i64 (2 * r1)) then r0.1 else (IntKind.wrap .i64 (2 * r1))) > (IntKind.wrap .i64 (Int.tdiv (IntKind.wrap .i64 (r0.1 * 7)) 10)) then (if r0.1 < (IntKind.wrap .i64 (2 * r1)) then r0.1 else (IntKind.wrap .i64 (2 * r1))) else (IntKind.wrap .i64 (Int.tdiv (IntKind.wrap .i64 (r0.1 * 7)) 10))), (r0.1, ((-1), (0, 0)))))
def leatref49_Within (N : Nat) (a0 : (Int × (Int × (Int × (Int × (Int × Int)))))) (a1 : Int) : Option (Int × (Int × (Int × (Int × (Int × Int))))) :=
  (leatref49_Size N a1).bind fun r0 =>
  (leatref49_keep N a0.1 r0 1073741824).bind fun r1 =>
  (leatref49_keep N a0.2.1 0 1073741824).bind fun r2 =>
  (leatref49_keep N a0.2.2.1 0 1073741824).bind fun r3 =>
  (leatref49_keep N a0.2.2.2.1 (-1) 1125899906842624).bind fun r4 =>
  (leatref49_keep N a0.2.2.2.2.1 0 1073741824).bind fun r5 =>
  (leatref49_keep N a0.2.2.2.2.2 0 1073741824).bind fun r6 =>
  some (r1, (r2, (r3, (r4, (r5, r6)))))
def leatref49_Cut (N : Nat) (a0 : (Int × (Int × (Int × (Int × (Int × Int)))))) (a1 : Int) : Option (Int × (Int × (Int × (Int × (Int × Int))))) :=
  (leatref49_Within N a0 a1).bind fun r0 =>
  bif (decide (r0.1 < r0.2.2.1)) then
    (leatref49_Size N a1).bind fun r1 =>
    bif (decide ((IntKind.wrap .i64 (Int.tdiv (IntKind.wrap .i64 (7 * r0.1)) 10)) < (IntKind.wrap .i64 (2 * r1)))) then
      (leatref49_Size N a1).bind fun r2 =>
      some ((if r0.1 < (IntKind.wrap .i64 (2 * r2)) then r0.1 else (IntKind.wrap .i64 (2 * r2))), ((if r0.1 < (IntKind.wrap .i64 (2 * r2)) then r0.1 else (IntKind.wrap .i64 (2 * r2))), ((IntKind.wrap .i64 (Int.tdiv (IntKind.wrap .i64 (17 * r0.1)) 20)), ((-1), (0, 0)))))
    else some ((IntKind.wrap .i64 (Int.tdiv (IntKind.wrap .i64 (7 * r0.1)) 10)), ((IntKind.wrap .i64 (Int.tdiv (IntKind.wrap .i64 (7 * r0.1)) 10)), ((IntKind.wrap .i64 (Int.tdiv (IntKind.wrap .i64 (17 * r0.1)) 20)), ((-1), (0, 0)))))
  else (leatref49_Size N a1).bind fun r3 =>
  bif (decide ((IntKind.wrap .i64 (Int.tdiv (IntKind.wrap .i64 (7 * r0.1)) 10)) < (IntKind.wrap .i64 (2 * r3)))) then
    (leatref49_Size N a1).bind fun r4 =>
    some ((if r0.1 < (IntKind.wrap .i64 (2 * r4)) then r0.1 else (IntKind.wrap .i64 (2 * r4))), ((if r0.1 < (IntKind.wrap .i64 (2 * r4)) then r0.1 else (IntKind.wrap .i64 (2 * r4))), (r0.1, ((-1), (0, 0)))))
  else some ((IntKind.wrap .i64 (Int.tdiv (IntKind.wrap .i64 (7 * r0.1)) 10)), ((IntKind.wrap .i64 (Int.tdiv (IntKind.wrap .i64 (7 * r0.1)) 10)), (r0.1, ((-1), (0, 0)))))
def cubic_Start (N : Nat) (a0 : Int) (a1 : Int) : Option (Int × (Int × (Int × (Int × (Int × Int))))) :=
  (cubic_size N a0).bind fun r0 =>
  (sat_Clamp N a1 1 1000).bind fun r1 =>
  some ((IntKind.wrap .i64 (r0 * r1)), (1073741824, (0, ((-1), (0, 0)))))
def cubic_Root_L3 (_N : Nat) (F : ((Int × (Int × (Int × Unit))) × Unit) → Option ((Int × Unit) × Unit)) (x : ((Int × (Int × (Int × Unit))) × Unit)) : Option ((Int × Unit) × Unit) :=
  bif (decide ((0 : Int) ≤ x.1.2.2.1)) then
    bif (!(decide (x.1.2.2.1 < 0))) then
      bif (!(decide ((bits .or .i64 x.1.2.1 (IntKind.wrap .i64 (1 * 2 ^ (min (x.1.2.2.1).toNat 64)))) = 0))) then
        bif (decide ((IntKind.wrap .i64 ((bits .or .i64 x.1.2.1 (IntKind.wrap .i64 (1 * 2 ^ (min (x.1.2.2.1).toNat 64)))) * (bits .or .i64 x.1.2.1 (IntKind.wrap .i64 (1 * 2 ^ (min (x.1.2.2.1).toNat 64)))))) ≤ (IntKind.wrap .i64 (Int.tdiv x.1.1 (bits .or .i64 x.1.2.1 (IntKind.wrap .i64 (1 * 2 ^ (min (x.1.2.2.1).toNat 64)))))))) then
          F ((x.1.1, ((bits .or .i64 x.1.2.1 (IntKind.wrap .i64 (1 * 2 ^ (min (x.1.2.2.1).toNat 64)))), ((IntKind.wrap .i64 (x.1.2.2.1 - 1)), ()))), ())
        else F ((x.1.1, (x.1.2.1, ((IntKind.wrap .i64 (x.1.2.2.1 - 1)), ()))), ())
      else none
    else none
  else some ((x.1.2.1, ()), ())
def cubic_Root (N : Nat) (a0 : Int) : Option Int :=
  (iter (cubic_Root_L3 N) N ((a0, (0, (20, ()))), ())).bind fun r0 =>
  some r0.1.1
def leatlaw49_works (N : Nat) : Option Bool :=
  (cubic_Root N 26).bind fun r0 =>
  bif ((r0 == 2) == true) then
    (cubic_Cut N (10000, (0, (0, (0, (0, 0))))) 1000).bind fun r1 =>
    some (r1.1 == 7000)
  else some false
def leatlaw49_CubicCuts (N : Nat) (a0 : (Int × (Int × (Int × (Int × (Int × Int)))))) (a1 : Int) (a2 : Int) : Option Bool :=
  (leatref49_Size N a1).bind fun r0 =>
  (cubic_Cut N a0 a1).bind fun r1 =>
  (leatref49_Cut N a0 a1).bind fun r2 =>
  bif (((r1.1 == r2.1) && ((r1.2.1 == r2.2.1) && ((r1.2.2.1 == r2.2.2.1) && ((r1.2.2.2.1 == r2.2.2.2.1) && ((r1.2.2.2.2.1 == r2.2.2.2.2.1) && ((r1.2.2.2.2.2 == r2.2.2.2.2.2) && true)))))) == true) then
    (cubic_Start N a1 a2).bind fun r3 =>
    bif (((r3.1 == (IntKind.wrap .i64 (r0 * (if 1000 < (if 1 > a2 then 1 else a2) then 1000 else (if 1 > a2 then 1 else a2))))) && ((r3.2.1 == 1073741824) && ((r3.2.2.1 == 0) && ((r3.2.2.2.1 == (-1)) && ((r3.2.2.2.2.1 == 0) && ((r3.2.2.2.2.2 == 0) && true)))))) == true) then
      (leatlaw49_works N).bind fun r4 =>
      some r4
    else some false
  else some false
def leatref49_Root_L2 (_N : Nat) (F : ((Int × (Int × (Int × Unit))) × Unit) → Option ((Int × Unit) × Unit)) (x : ((Int × (Int × (Int × Unit))) × Unit)) : Option ((Int × Unit) × Unit) :=
  bif (decide (x.1.2.1 < x.1.2.2.1)) then
    bif (decide ((IntKind.wrap .i64 ((IntKind.wrap .i64 ((IntKind.wrap .i64 (Int.tdiv (IntKind.wrap .i64 ((IntKind.wrap .i64 (x.1.2.1 + x.1.2.2.1)) + 1)) 2)) * (IntKind.wrap .i64 (Int.tdiv (IntKind.wrap .i64 ((IntKind.wrap .i64 (x.1.2.1 + x.1.2.2.1)) + 1)) 2)))) * (IntKind.wrap .i64 (Int.tdiv (IntKind.wrap .i64 ((IntKind.wrap .i64 (x.1.2.1 + x.1.2.2.1)) + 1)) 2)))) ≤ x.1.1)) then
      F ((x.1.1, ((IntKind.wrap .i64 (Int.tdiv (IntKind.wrap .i64 ((IntKind.wrap .i64 (x.1.2.1 + x.1.2.2.1)) + 1)) 2)), (x.1.2.2.1, ()))), ())
    else F ((x.1.1, (x.1.2.1, ((IntKind.wrap .i64 ((IntKind.wrap .i64 (Int.tdiv (IntKind.wrap .i64 ((IntKind.wrap .i64 (x.1.2.1 + x.1.2.2.1)) + 1)) 2)) - 1)), ()))), ())
  else some ((x.1.2.1, ()), ())
def leatref49_Root (N : Nat) (a0 : Int) : Option Int :=
  (iter (leatref49_Root_L2 N) N ((a0, (0, (2097151, ()))), ())).bind fun r0 =>
  some r0.1.1
def sat_end (_N : Nat) (a0 : Bool) : Option Int :=
  bif a0 then
    some (-9223372036854775808)
  else some 9223372036854775807
def sat_Sub (N : Nat) (a0 : Int) (a1 : Int) : Option Int :=
  bif (decide ((bits .and .i64 (bits .xor .i64 a0 a1) (bits .xor .i64 a0 (IntKind.wrap .i64 (a0 - a1)))) < 0)) then
    (sat_end N (decide (a0 < 0))).bind fun r0 =>
    some r0
  else some (IntKind.wrap .i64 (a0 - a1))
def sat_size (_N : Nat) (a0 : Int) : Option Int :=
  bif (decide (a0 < 0)) then
    some (IntKind.wrap .u64 (0 - (IntKind.wrap .u64 a0)))
  else some (IntKind.wrap .u64 a0)
def bits_Mul64 (_N : Nat) (a0 : Int) (a1 : Int) : Option (Int × Int) :=
  some ((IntKind.wrap .u64 ((IntKind.wrap .u64 ((IntKind.wrap .u64 ((Int.fdiv a0 4294967296) * (Int.fdiv a1 4294967296))) + (Int.fdiv (IntKind.wrap .u64 ((IntKind.wrap .u64 ((Int.fdiv a0 4294967296) * (bits .and .u64 a1 4294967295))) + (Int.fdiv (IntKind.wrap .u64 ((bits .and .u64 a0 4294967295) * (bits .and .u64 a1 4294967295))) 4294967296))) 4294967296))) + (Int.fdiv (IntKind.wrap .u64 ((bits .and .u64 (IntKind.wrap .u64 ((IntKind.wrap .u64 ((Int.fdiv a0 4294967296) * (bits .and .u64 a1 4294967295))) + (Int.fdiv (IntKind.wrap .u64 ((bits .and .u64 a0 4294967295) * (bits .and .u64 a1 4294967295))) 4294967296))) 4294967295) + (IntKind.wrap .u64 ((bits .and .u64 a0 4294967295) * (Int.fdiv a1 4294967296))))) 4294967296))), (IntKind.wrap .u64 (a0 * a1)))
def sat_signed (_N : Nat) (a0 : Int) (a1 : Bool) : Option Int :=
  bif (a1 == true) then
    bif (decide ((9223372036854775807 : Int) < a0)) then
      some (-9223372036854775808)
    else bif a1 then
      some (IntKind.wrap .i64 (0 - (IntKind.wrap .i64 a0)))
    else bif (decide ((9223372036854775807 : Int) < a0)) then
      some 9223372036854775807
    else some (IntKind.wrap .i64 a0)
  else bif a1 then
    some (IntKind.wrap .i64 (0 - (IntKind.wrap .i64 a0)))
  else bif (decide ((9223372036854775807 : Int) < a0)) then
    some 9223372036854775807
  else some (IntKind.wrap .i64 a0)
def sat_Mul (N : Nat) (a0 : Int) (a1 : Int) : Option Int :=
  (sat_size N a0).bind fun r0 =>
  (sat_size N a1).bind fun r1 =>
  (bits_Mul64 N r0 r1).bind fun r2 =>
  bif (decide ((0 : Int) < r2.1)) then
    (sat_end N (!((decide (a0 < 0)) == (decide (a1 < 0))))).bind fun r3 =>
    some r3
  else (sat_signed N r2.2 (!((decide (a0 < 0)) == (decide (a1 < 0))))).bind fun r4 =>
  some r4
def cubic_Wait (N : Nat) (a0 : Int) (a1 : Int) (a2 : Int) : Option Int :=
  bif (decide (a0 ≤ a1)) then
    some 0
  else (sat_Sub N a0 a1).bind fun r0 =>
  (sat_Mul N r0 2500000000).bind fun r1 =>
  (cubic_size N a2).bind fun r2 =>
  bif (!(decide (r2 = 0))) then
    (cubic_Root N (IntKind.wrap .i64 (Int.tdiv r1 r2))).bind fun r3 =>
    some r3
  else none
def leatref01_Add (_N : Nat) (a0 : Int) (a1 : Int) : Option Int :=
  bif ((decide ((0 : Int) < a1)) == true) then
    bif (decide ((IntKind.wrap .i64 (9223372036854775807 - a1)) < a0)) then
      some 9223372036854775807
    else bif ((decide (a1 < 0)) == true) then
      bif (decide (a0 < (IntKind.wrap .i64 ((-9223372036854775808) - a1)))) then
        some (-9223372036854775808)
      else some (IntKind.wrap .i64 (a0 + a1))
    else some (IntKind.wrap .i64 (a0 + a1))
  else bif ((decide (a1 < 0)) == true) then
    bif (decide (a0 < (IntKind.wrap .i64 ((-9223372036854775808) - a1)))) then
      some (-9223372036854775808)
    else some (IntKind.wrap .i64 (a0 + a1))
  else some (IntKind.wrap .i64 (a0 + a1))
def leatref01_Sub (N : Nat) (a0 : Int) (a1 : Int) : Option Int :=
  bif (a1 == (-9223372036854775808)) then
    bif (decide ((0 : Int) ≤ a0)) then
      some 9223372036854775807
    else some (IntKind.wrap .i64 (a0 - a1))
  else (leatref01_Add N a0 (IntKind.wrap .i64 (0 - a1))).bind fun r0 =>
  some r0
def leatref01_Neg (_N : Nat) (a0 : Int) : Option Int :=
  bif (a0 == (-9223372036854775808)) then
    some 9223372036854775807
  else some (IntKind.wrap .i64 (0 - a0))
def leatref01_Mul_L11 (_N : Nat) (F : ((Bool × (Int × (Int × (Int × (Bool × (Bool × Unit)))))) × Unit) → Option ((Bool × (Int × (Bool × Unit))) × Unit)) (x : ((Bool × (Int × (Int × (Int × (Bool × (Bool × Unit)))))) × Unit)) : Option ((Bool × (Int × (Bool × Unit))) × Unit) :=
  bif (decide (x.1.2.1 < 0)) then
    bif (!((Int.tmod x.1.2.1 2) == 0)) then
      bif (x.1.2.2.2.2.1 == false) then
        bif (x.1.2.2.2.2.2.1 == false) then
          bif (!(decide (x.1.2.2.1 < (IntKind.wrap .i64 ((-9223372036854775808) - x.1.2.2.2.1))))) then
            bif (x.1.2.2.2.2.2.1 == false) then
              bif (!(decide (x.1.2.2.2.1 < (-4611686018427387904)))) then
                F ((x.1.1, ((IntKind.wrap .i64 (Int.tdiv x.1.2.1 2)), ((IntKind.wrap .i64 (x.1.2.2.1 + x.1.2.2.2.1)), ((IntKind.wrap .i64 (x.1.2.2.2.1 * 2)), ((decide (x.1.2.2.1 < (IntKind.wrap .i64 ((-9223372036854775808) - x.1.2.2.2.1)))), ((decide (x.1.2.2.2.1 < (-4611686018427387904))), ())))))), ())
              else F ((x.1.1, ((IntKind.wrap .i64 (Int.tdiv x.1.2.1 2)), ((IntKind.wrap .i64 (x.1.2.2.1 + x.1.2.2.2.1)), (x.1.2.2.2.1, ((decide (x.1.2.2.1 < (IntKind.wrap .i64 ((-9223372036854775808) - x.1.2.2.2.1)))), ((decide (x.1.2.2.2.1 < (-4611686018427387904))), ())))))), ())
            else F ((x.1.1, ((IntKind.wrap .i64 (Int.tdiv x.1.2.1 2)), ((IntKind.wrap .i64 (x.1.2.2.1 + x.1.2.2.2.1)), (x.1.2.2.2.1, ((decide (x.1.2.2.1 < (IntKind.wrap .i64 ((-9223372036854775808) - x.1.2.2.2.1)))), (true, ())))))), ())
          else bif (x.1.2.2.2.2.2.1 == false) then
            bif (!(decide (x.1.2.2.2.1 < (-4611686018427387904)))) then
              F ((x.1.1, ((IntKind.wrap .i64 (Int.tdiv x.1.2.1 2)), (x.1.2.2.1, ((IntKind.wrap .i64 (x.1.2.2.2.1 * 2)), ((decide (x.1.2.2.1 < (IntKind.wrap .i64 ((-9223372036854775808) - x.1.2.2.2.1)))), ((decide (x.1.2.2.2.1 < (-4611686018427387904))), ())))))), ())
            else F ((x.1.1, ((IntKind.wrap .i64 (Int.tdiv x.1.2.1 2)), (x.1.2.2.1, (x.1.2.2.2.1, ((decide (x.1.2.2.1 < (IntKind.wrap .i64 ((-9223372036854775808) - x.1.2.2.2.1)))), ((decide (x.1.2.2.2.1 < (-4611686018427387904))), ())))))), ())
          else F ((x.1.1, ((IntKind.wrap .i64 (Int.tdiv x.1.2.1 2)), (x.1.2.2.1, (x.1.2.2.2.1, ((decide (x.1.2.2.1 < (IntKind.wrap .i64 ((-9223372036854775808) - x.1.2.2.2.1)))), (true, ())))))), ())
        else bif (x.1.2.2.2.2.2.1 == false) then
          bif (!(decide (x.1.2.2.2.1 < (-4611686018427387904)))) then
            F ((x.1.1, ((IntKind.wrap .i64 (Int.tdiv x.1.2.1 2)), (x.1.2.2.1, ((IntKind.wrap .i64 (x.1.2.2.2.1 * 2)), (true, ((decide (x.1.2.2.2.1 < (-4611686018427387904))), ())))))), ())
          else F ((x.1.1, ((IntKind.wrap .i64 (Int.tdiv x.1.2.1 2)), (x.1.2.2.1, (x.1.2.2.2.1, (true, ((decide (x.1.2.2.2.1 < (-4611686018427387904))), ())))))), ())
        else F ((x.1.1, ((IntKind.wrap .i64 (Int.tdiv x.1.2.1 2)), (x.1.2.2.1, (x.1.2.2.2.1, (true, (true, ())))))), ())
      else bif (x.1.2.2.2.2.2.1 == false) then
        bif (!(decide (x.1.2.2.2.1 < (-4611686018427387904)))) then
          F ((x.1.1, ((IntKind.wrap .i64 (Int.tdiv x.1.2.1 2)), (x.1.2.2.1, ((IntKind.wrap .i64 (x.1.2.2.2.1 * 2)), (true, ((decide (x.1.2.2.2.1 < (-4611686018427387904))), ())))))), ())
        else F ((x.1.1, ((IntKind.wrap .i64 (Int.tdiv x.1.2.1 2)), (x.1.2.2.1, (x.1.2.2.2.1, (true, ((decide (x.1.2.2.2.1 < (-4611686018427387904))), ())))))), ())
      else F ((x.1.1, ((IntKind.wrap .i64 (Int.tdiv x.1.2.1 2)), (x.1.2.2.1, (x.1.2.2.2.1, (true, (true, ())))))), ())
    else bif (x.1.2.2.2.2.2.1 == false) then
      bif (!(decide (x.1.2.2.2.1 < (-4611686018427387904)))) then
        F ((x.1.1, ((IntKind.wrap .i64 (Int.tdiv x.1.2.1 2)), (x.1.2.2.1, ((IntKind.wrap .i64 (x.1.2.2.2.1 * 2)), (x.1.2.2.2.2.1, ((decide (x.1.2.2.2.1 < (-4611686018427387904))), ())))))), ())
      else F ((x.1.1, ((IntKind.wrap .i64 (Int.tdiv x.1.2.1 2)), (x.1.2.2.1, (x.1.2.2.2.1, (x.1.2.2.2.2.1, ((decide (x.1.2.2.2.1 < (-4611686018427387904))), ())))))), ())
    else F ((x.1.1, ((IntKind.wrap .i64 (Int.tdiv x.1.2.1 2)), (x.1.2.2.1, (x.1.2.2.2.1, (x.1.2.2.2.2.1, (true, ())))))), ())
  else some ((x.1.1, (x.1.2.2.1, (x.1.2.2.2.2.1, ()))), ())
def leatref01_Mul (N : Nat) (a0 : Int) (a1 : Int) : Option Int :=
  bif ((a0 == 0) == false) then
    bif (a1 == 0) then
      some 0
    else bif (decide ((0 : Int) < a0)) then
      bif (decide ((0 : Int) < a1)) then
        (iter (leatref01_Mul_L11 N) N (((!((decide (a0 < 0)) == (decide (a1 < 0)))), ((IntKind.wrap .i64 (0 - a1)), (0, ((IntKind.wrap .i64 (0 - a0)), (false, (false, ())))))), ())).bind fun r0 =>
        bif (r0.1.2.2.1 == true) then
          bif r0.1.1 then
            some (-9223372036854775808)
          else bif r0.1.2.2.1 then
            some 9223372036854775807
          else bif r0.1.1 then
            some r0.1.2.1
          else (leatref01_Neg N r0.1.2.1).bind fun r1 =>
          some r1
        else bif r0.1.2.2.1 then
          some 9223372036854775807
        else bif r0.1.1 then
          some r0.1.2.1
        else (leatref01_Neg N r0.1.2.1).bind fun r2 =>
        some r2
      else (iter (leatref01_Mul_L11 N) N (((!((decide (a0 < 0)) == (decide (a1 < 0)))), (a1, (0, ((IntKind.wrap .i64 (0 - a0)), (false, (false, ())))))), ())).bind fun r3 =>
      bif (r3.1.2.2.1 == true) then
        bif r3.1.1 then
          some (-9223372036854775808)
        else bif r3.1.2.2.1 then
          some 9223372036854775807
        else bif r3.1.1 then
          some r3.1.2.1
        else (leatref01_Neg N r3.1.2.1).bind fun r4 =>
        some r4
      else bif r3.1.2.2.1 then
        some 9223372036854775807
      else bif r3.1.1 then
        some r3.1.2.1
      else (leatref01_Neg N r3.1.2.1).bind fun r5 =>
      some r5
    else bif (decide ((0 : Int) < a1)) then
      (iter (leatref01_Mul_L11 N) N (((!((decide (a0 < 0)) == (decide (a1 < 0)))), ((IntKind.wrap .i64 (0 - a1)), (0, (a0, (false, (false, ())))))), ())).bind fun r6 =>
      bif (r6.1.2.2.1 == true) then
        bif r6.1.1 then
          some (-9223372036854775808)
        else bif r6.1.2.2.1 then
          some 9223372036854775807
        else bif r6.1.1 then
          some r6.1.2.1
        else (leatref01_Neg N r6.1.2.1).bind fun r7 =>
        some r7
      else bif r6.1.2.2.1 then
        some 9223372036854775807
      else bif r6.1.1 then
        some r6.1.2.1
      else (leatref01_Neg N r6.1.2.1).bind fun r8 =>
      some r8
    else (iter (leatref01_Mul_L11 N) N (((!((decide (a0 < 0)) == (decide (a1 < 0)))), (a1, (0, (a0, (false, (false, ())))))), ())).bind fun r9 =>
    bif (r9.1.2.2.1 == true) then
      bif r9.1.1 then
        some (-9223372036854775808)
      else bif r9.1.2.2.1 then
        some 9223372036854775807
      else bif r9.1.1 then
        some r9.1.2.1
      else (leatref01_Neg N r9.1.2.1).bind fun r10 =>
      some r10
    else bif r9.1.2.2.1 then
      some 9223372036854775807
    else bif r9.1.1 then
      some r9.1.2.1
    else (leatref01_Neg N r9.1.2.1).bind fun r11 =>
    some r11
  else some 0
def leatref49_Wait (N : Nat) (a0 : Int) (a1 : Int) (a2 : Int) : Option Int :=
  bif (decide (a0 ≤ a1)) then
    some 0
  else (leatref01_Sub N a0 a1).bind fun r0 =>
  (leatref01_Mul N r0 2500000000).bind fun r1 =>
  (leatref49_Size N a2).bind fun r2 =>
  bif (!(decide (r2 = 0))) then
    (leatref49_Root N (IntKind.wrap .i64 (Int.tdiv r1 r2))).bind fun r3 =>
    some r3
  else none
def leatlaw49_CubicRoots (N : Nat) (a0 : Int) (a1 : (Int × Int)) (a2 : Int) : Option Bool :=
  (cubic_Root N a0).bind fun r0 =>
  (leatref49_Root N a0).bind fun r1 =>
  bif ((r0 == r1) == true) then
    (cubic_Wait N a1.1 a1.2 a2).bind fun r2 =>
    (leatref49_Wait N a1.1 a1.2 a2).bind fun r3 =>
    bif ((r2 == r3) == true) then
      (leatlaw49_works N).bind fun r4 =>
      some r4
    else some false
  else some false
def sat_Abs (N : Nat) (a0 : Int) : Option Int :=
  (sat_size N a0).bind fun r0 =>
  (sat_signed N r0 false).bind fun r1 =>
  some r1
def wide_Mul (N : Nat) (a0 : Int) (a1 : Int) : Option (Int × Int) :=
  (bits_Mul64 N a0 a1).bind fun r0 =>
  some r0
def bits_Len64_tab0 : ByteArray := bytesL [0, 1, 2, 2, 3, 3, 3, 3, 4, 4, 4, 4, 4, 4, 4, 4, 5, 5, 5, 5, 5, 5, 5, 5, 5, 5, 5, 5, 5, 5, 5, 5, 6, 6, 6, 6, 6, 6, 6, 6, 6, 6, 6, 6, 6, 6, 6, 6, 6, 6, 6, 6, 6, 6, 6, 6, 6, 6, 6, 6, 6, 6, 6, 6, 7, 7, 7, 7, 7, 7, 7, 7, 7, 7, 7, 7, 7, 7, 7, 7, 7, 7, 7, 7, 7, 7, 7, 7, 7, 7, 7, 7, 7, 7, 7, 7, 7, 7, 7, 7, 7, 7, 7, 7, 7, 7, 7, 7, 7, 7, 7, 7, 7, 7, 7, 7, 7, 7, 7, 7, 7, 7, 7, 7, 7, 7, 7, 7, 8, 8, 8, 8, 8, 8, 8, 8, 8, 8, 8, 8, 8, 8, 8, 8, 8, 8, 8, 8, 8, 8, 8, 8, 8, 8, 8, 8, 8, 8, 8, 8, 8, 8, 8, 8, 8, 8, 8, 8, 8, 8, 8, 8, 8, 8, 8, 8, 8, 8, 8, 8, 8, 8, 8, 8, 8, 8, 8, 8, 8, 8, 8, 8, 8, 8, 8, 8, 8, 8, 8, 8, 8, 8, 8, 8, 8, 8, 8, 8, 8, 8, 8, 8, 8, 8, 8, 8, 8, 8, 8, 8, 8, 8, 8, 8, 8, 8, 8, 8, 8, 8, 8, 8, 8, 8, 8, 8, 8, 8, 8, 8, 8, 8, 8, 8, 8, 8, 8, 8, 8, 8, 8, 8, 8, 8, 8, 8]
def bits_Len64 (_N : Nat) (a0 : Int) : Option Int :=
  bif (decide ((4294967296 : Int) ≤ a0)) then
    bif (decide ((65536 : Int) ≤ (Int.fdiv a0 4294967296))) then
      bif (decide ((256 : Int) ≤ (Int.fdiv (Int.fdiv a0 4294967296) 65536))) then
        bif ((decide ((0 : Int) ≤ (IntKind.wrap .u8 (Int.fdiv (Int.fdiv (Int.fdiv a0 4294967296) 65536) 256)))) && (decide ((IntKind.wrap .u8 (Int.fdiv (Int.fdiv (Int.fdiv a0 4294967296) 65536) 256)) < (((bits_Len64_tab0).size : Nat) : Int)))) then
          some (IntKind.wrap .i64 (56 + (IntKind.wrap .i64 (byteAt bits_Len64_tab0 (IntKind.wrap .u8 (Int.fdiv (Int.fdiv (Int.fdiv a0 4294967296) 65536) 256))))))
        else none
      else bif ((decide ((0 : Int) ≤ (IntKind.wrap .u8 (Int.fdiv (Int.fdiv a0 4294967296) 65536)))) && (decide ((IntKind.wrap .u8 (Int.fdiv (Int.fdiv a0 4294967296) 65536)) < (((bits_Len64_tab0).size : Nat) : Int)))) then
        some (IntKind.wrap .i64 (48 + (IntKind.wrap .i64 (byteAt bits_Len64_tab0 (IntKind.wrap .u8 (Int.fdiv (Int.fdiv a0 4294967296) 65536))))))
      else none
    else bif (decide ((256 : Int) ≤ (Int.fdiv a0 4294967296))) then
      bif ((decide ((0 : Int) ≤ (IntKind.wrap .u8 (Int.fdiv (Int.fdiv a0 4294967296) 256)))) && (decide ((IntKind.wrap .u8 (Int.fdiv (Int.fdiv a0 4294967296) 256)) < (((bits_Len64_tab0).size : Nat) : Int)))) then
        some (IntKind.wrap .i64 (40 + (IntKind.wrap .i64 (byteAt bits_Len64_tab0 (IntKind.wrap .u8 (Int.fdiv (Int.fdiv a0 4294967296) 256))))))
      else none
    else bif ((decide ((0 : Int) ≤ (IntKind.wrap .u8 (Int.fdiv a0 4294967296)))) && (decide ((IntKind.wrap .u8 (Int.fdiv a0 4294967296)) < (((bits_Len64_tab0).size : Nat) : Int)))) then
      some (IntKind.wrap .i64 (32 + (IntKind.wrap .i64 (byteAt bits_Len64_tab0 (IntKind.wrap .u8 (Int.fdiv a0 4294967296))))))
    else none
  else bif (decide ((65536 : Int) ≤ a0)) then
    bif (decide ((256 : Int) ≤ (Int.fdiv a0 65536))) then
      bif ((decide ((0 : Int) ≤ (IntKind.wrap .u8 (Int.fdiv (Int.fdiv a0 65536) 256)))) && (decide ((IntKind.wrap .u8 (Int.fdiv (Int.fdiv a0 65536) 256)) < (((bits_Len64_tab0).size : Nat) : Int)))) then
        some (IntKind.wrap .i64 (24 + (IntKind.wrap .i64 (byteAt bits_Len64_tab0 (IntKind.wrap .u8 (Int.fdiv (Int.fdiv a0 65536) 256))))))
      else none
    else bif ((decide ((0 : Int) ≤ (IntKind.wrap .u8 (Int.fdiv a0 65536)))) && (decide ((IntKind.wrap .u8 (Int.fdiv a0 65536)) < (((bits_Len64_tab0).size : Nat) : Int)))) then
      some (IntKind.wrap .i64 (16 + (IntKind.wrap .i64 (byteAt bits_Len64_tab0 (IntKind.wrap .u8 (Int.fdiv a0 65536))))))
    else none
  else bif (decide ((256 : Int) ≤ a0)) then
    bif ((decide ((0 : Int) ≤ (IntKind.wrap .u8 (Int.fdiv a0 256)))) && (decide ((IntKind.wrap .u8 (Int.fdiv a0 256)) < (((bits_Len64_tab0).size : Nat) : Int)))) then
      some (IntKind.wrap .i64 (8 + (IntKind.wrap .i64 (byteAt bits_Len64_tab0 (IntKind.wrap .u8 (Int.fdiv a0 256))))))
    else none
  else bif ((decide ((0 : Int) ≤ (IntKind.wrap .u8 a0))) && (decide ((IntKind.wrap .u8 a0) < (((bits_Len64_tab0).size : Nat) : Int)))) then
    some (IntKind.wrap .i64 (0 + (IntKind.wrap .i64 (byteAt bits_Len64_tab0 (IntKind.wrap .u8 a0)))))
  else none
def bits_LeadingZeros64 (N : Nat) (a0 : Int) : Option Int :=
  (bits_Len64 N a0).bind fun r0 =>
  some (IntKind.wrap .i64 (64 - r0))
def bits_Div64_L17 (_N : Nat) (F : ((Int × (Int × (Int × (Int × (Int × (Int × (Int × (Int × (Int × Unit))))))))) × Unit) → Option ((Int × (Int × (Int × (Int × (Int × (Int × (Int × (Int × Unit)))))))) × Unit)) (x : ((Int × (Int × (Int × (Int × (Int × (Int × (Int × (Int × (Int × Unit))))))))) × Unit)) : Option ((Int × (Int × (Int × (Int × (Int × (Int × (Int × (Int × Unit)))))))) × Unit) :=
  bif ((decide ((4294967296 : Int) ≤ x.1.2.2.2.2.2.2.2.1)) == false) then
    bif (decide ((IntKind.wrap .u64 ((IntKind.wrap .u64 (4294967296 * x.1.2.2.2.2.2.2.2.2.1)) + x.1.2.2.2.2.2.1)) < (IntKind.wrap .u64 (x.1.2.2.2.2.2.2.2.1 * x.1.2.2.2.1)))) then
      bif (decide ((4294967296 : Int) ≤ (IntKind.wrap .u64 (x.1.2.2.2.2.2.2.2.2.1 + x.1.2.2.1)))) then
        some ((x.1.1, (x.1.2.1, (x.1.2.2.1, (x.1.2.2.2.1, (x.1.2.2.2.2.1, (x.1.2.2.2.2.2.1, (x.1.2.2.2.2.2.2.1, ((IntKind.wrap .u64 (x.1.2.2.2.2.2.2.2.1 - 1)), ())))))))), ())
      else F ((x.1.1, (x.1.2.1, (x.1.2.2.1, (x.1.2.2.2.1, (x.1.2.2.2.2.1, (x.1.2.2.2.2.2.1, (x.1.2.2.2.2.2.2.1, ((IntKind.wrap .u64 (x.1.2.2.2.2.2.2.2.1 - 1)), ((IntKind.wrap .u64 (x.1.2.2.2.2.2.2.2.2.1 + x.1.2.2.1)), ()))))))))), ())
    else some ((x.1.1, (x.1.2.1, (x.1.2.2.1, (x.1.2.2.2.1, (x.1.2.2.2.2.1, (x.1.2.2.2.2.2.1, (x.1.2.2.2.2.2.2.1, (x.1.2.2.2.2.2.2.2.1, ())))))))), ())
  else bif (decide ((4294967296 : Int) ≤ (IntKind.wrap .u64 (x.1.2.2.2.2.2.2.2.2.1 + x.1.2.2.1)))) then
    some ((x.1.1, (x.1.2.1, (x.1.2.2.1, (x.1.2.2.2.1, (x.1.2.2.2.2.1, (x.1.2.2.2.2.2.1, (x.1.2.2.2.2.2.2.1, ((IntKind.wrap .u64 (x.1.2.2.2.2.2.2.2.1 - 1)), ())))))))), ())
  else F ((x.1.1, (x.1.2.1, (x.1.2.2.1, (x.1.2.2.2.1, (x.1.2.2.2.2.1, (x.1.2.2.2.2.2.1, (x.1.2.2.2.2.2.2.1, ((IntKind.wrap .u64 (x.1.2.2.2.2.2.2.2.1 - 1)), ((IntKind.wrap .u64 (x.1.2.2.2.2.2.2.2.2.1 + x.1.2.2.1)), ()))))))))), ())
def bits_Div64_L24 (_N : Nat) (F : ((Int × (Int × (Int × (Int × (Int × (Int × (Int × (Int × (Int × Unit))))))))) × Unit) → Option ((Int × (Int × (Int × (Int × (Int × (Int × Unit)))))) × Unit)) (x : ((Int × (Int × (Int × (Int × (Int × (Int × (Int × (Int × (Int × Unit))))))))) × Unit)) : Option ((Int × (Int × (Int × (Int × (Int × (Int × Unit)))))) × Unit) :=
  bif ((decide ((4294967296 : Int) ≤ x.1.2.2.2.2.2.2.2.2.1)) == false) then
    bif (decide ((IntKind.wrap .u64 ((IntKind.wrap .u64 (4294967296 * x.1.2.2.2.2.2.2.1)) + x.1.2.2.2.2.1)) < (IntKind.wrap .u64 (x.1.2.2.2.2.2.2.2.2.1 * x.1.2.2.2.1)))) then
      bif (decide ((4294967296 : Int) ≤ (IntKind.wrap .u64 (x.1.2.2.2.2.2.2.1 + x.1.2.2.1)))) then
        some ((x.1.1, (x.1.2.1, (x.1.2.2.2.2.1, (x.1.2.2.2.2.2.1, (x.1.2.2.2.2.2.2.2.1, ((IntKind.wrap .u64 (x.1.2.2.2.2.2.2.2.2.1 - 1)), ())))))), ())
      else F ((x.1.1, (x.1.2.1, (x.1.2.2.1, (x.1.2.2.2.1, (x.1.2.2.2.2.1, (x.1.2.2.2.2.2.1, ((IntKind.wrap .u64 (x.1.2.2.2.2.2.2.1 + x.1.2.2.1)), (x.1.2.2.2.2.2.2.2.1, ((IntKind.wrap .u64 (x.1.2.2.2.2.2.2.2.2.1 - 1)), ()))))))))), ())
    else some ((x.1.1, (x.1.2.1, (x.1.2.2.2.2.1, (x.1.2.2.2.2.2.1, (x.1.2.2.2.2.2.2.2.1, (x.1.2.2.2.2.2.2.2.2.1, ())))))), ())
  else bif (decide ((4294967296 : Int) ≤ (IntKind.wrap .u64 (x.1.2.2.2.2.2.2.1 + x.1.2.2.1)))) then
    some ((x.1.1, (x.1.2.1, (x.1.2.2.2.2.1, (x.1.2.2.2.2.2.1, (x.1.2.2.2.2.2.2.2.1, ((IntKind.wrap .u64 (x.1.2.2.2.2.2.2.2.2.1 - 1)), ())))))), ())
  else F ((x.1.1, (x.1.2.1, (x.1.2.2.1, (x.1.2.2.2.1, (x.1.2.2.2.2.1, (x.1.2.2.2.2.2.1, ((IntKind.wrap .u64 (x.1.2.2.2.2.2.2.1 + x.1.2.2.1)), (x.1.2.2.2.2.2.2.2.1, ((IntKind.wrap .u64 (x.1.2.2.2.2.2.2.2.2.1 - 1)), ()))))))))), ())
def bits_Div64 (N : Nat) (a0 : Int) (a1 : Int) (a2 : Int) : Option (Int × Int) :=
  bif (a2 == 0) then
    none
  else bif (decide (a2 ≤ a0)) then
    none
  else bif (a0 == 0) then
    bif (!(decide (a2 = 0))) then
      bif (!(decide (a2 = 0))) then
        some ((IntKind.wrap .u64 (Int.tdiv a1 a2)), (Int.tmod a1 a2))
      else none
    else none
  else (bits_LeadingZeros64 N a2).bind fun r0 =>
  bif (!(decide ((IntKind.wrap .u64 r0) < 0))) then
    bif (!(decide ((IntKind.wrap .u64 r0) < 0))) then
      bif (!(decide ((IntKind.wrap .u64 (64 - (IntKind.wrap .u64 r0))) < 0))) then
        bif (!(decide ((IntKind.wrap .u64 r0) < 0))) then
          bif (!(decide ((Int.fdiv (IntKind.wrap .u64 (a2 * 2 ^ (min ((IntKind.wrap .u64 r0)).toNat 64))) 4294967296) = 0))) then
            (iter (bits_Div64_L17 N) N (((IntKind.wrap .u64 (a2 * 2 ^ (min ((IntKind.wrap .u64 r0)).toNat 64))), ((IntKind.wrap .u64 r0), ((Int.fdiv (IntKind.wrap .u64 (a2 * 2 ^ (min ((IntKind.wrap .u64 r0)).toNat 64))) 4294967296), ((bits .and .u64 (IntKind.wrap .u64 (a2 * 2 ^ (min ((IntKind.wrap .u64 r0)).toNat 64))) 4294967295), ((bits .or .u64 (IntKind.wrap .u64 (a0 * 2 ^ (min ((IntKind.wrap .u64 r0)).toNat 64))) (Int.fdiv a1 (2 ^ (min ((IntKind.wrap .u64 (64 - (IntKind.wrap .u64 r0)))).toNat 64)))), ((Int.fdiv (IntKind.wrap .u64 (a1 * 2 ^ (min ((IntKind.wrap .u64 r0)).toNat 64))) 4294967296), ((bits .and .u64 (IntKind.wrap .u64 (a1 * 2 ^ (min ((IntKind.wrap .u64 r0)).toNat 64))) 4294967295), ((IntKind.wrap .u64 (Int.tdiv (bits .or .u64 (IntKind.wrap .u64 (a0 * 2 ^ (min ((IntKind.wrap .u64 r0)).toNat 64))) (Int.fdiv a1 (2 ^ (min ((IntKind.wrap .u64 (64 - (IntKind.wrap .u64 r0)))).toNat 64)))) (Int.fdiv (IntKind.wrap .u64 (a2 * 2 ^ (min ((IntKind.wrap .u64 r0)).toNat 64))) 4294967296))), ((IntKind.wrap .u64 ((bits .or .u64 (IntKind.wrap .u64 (a0 * 2 ^ (min ((IntKind.wrap .u64 r0)).toNat 64))) (Int.fdiv a1 (2 ^ (min ((IntKind.wrap .u64 (64 - (IntKind.wrap .u64 r0)))).toNat 64)))) - (IntKind.wrap .u64 ((IntKind.wrap .u64 (Int.tdiv (bits .or .u64 (IntKind.wrap .u64 (a0 * 2 ^ (min ((IntKind.wrap .u64 r0)).toNat 64))) (Int.fdiv a1 (2 ^ (min ((IntKind.wrap .u64 (64 - (IntKind.wrap .u64 r0)))).toNat 64)))) (Int.fdiv (IntKind.wrap .u64 (a2 * 2 ^ (min ((IntKind.wrap .u64 r0)).toNat 64))) 4294967296))) * (Int.fdiv (IntKind.wrap .u64 (a2 * 2 ^ (min ((IntKind.wrap .u64 r0)).toNat 64))) 4294967296))))), ()))))))))), ())).bind fun r1 =>
            bif (!(decide (r1.1.2.2.1 = 0))) then
              (iter (bits_Div64_L24 N) N ((r1.1.1, (r1.1.2.1, (r1.1.2.2.1, (r1.1.2.2.2.1, (r1.1.2.2.2.2.2.2.1, (r1.1.2.2.2.2.2.2.2.1, ((IntKind.wrap .u64 ((IntKind.wrap .u64 ((IntKind.wrap .u64 ((IntKind.wrap .u64 (r1.1.2.2.2.2.1 * 4294967296)) + r1.1.2.2.2.2.2.1)) - (IntKind.wrap .u64 (r1.1.2.2.2.2.2.2.2.1 * r1.1.1)))) - (IntKind.wrap .u64 ((IntKind.wrap .u64 (Int.tdiv (IntKind.wrap .u64 ((IntKind.wrap .u64 ((IntKind.wrap .u64 (r1.1.2.2.2.2.1 * 4294967296)) + r1.1.2.2.2.2.2.1)) - (IntKind.wrap .u64 (r1.1.2.2.2.2.2.2.2.1 * r1.1.1)))) r1.1.2.2.1)) * r1.1.2.2.1)))), ((IntKind.wrap .u64 ((IntKind.wrap .u64 ((IntKind.wrap .u64 (r1.1.2.2.2.2.1 * 4294967296)) + r1.1.2.2.2.2.2.1)) - (IntKind.wrap .u64 (r1.1.2.2.2.2.2.2.2.1 * r1.1.1)))), ((IntKind.wrap .u64 (Int.tdiv (IntKind.wrap .u64 ((IntKind.wrap .u64 ((IntKind.wrap .u64 (r1.1.2.2.2.2.1 * 4294967296)) + r1.1.2.2.2.2.2.1)) - (IntKind.wrap .u64 (r1.1.2.2.2.2.2.2.2.1 * r1.1.1)))) r1.1.2.2.1)), ()))))))))), ())).bind fun r2 =>
              bif (!(decide (r2.1.2.1 < 0))) then
                some ((IntKind.wrap .u64 ((IntKind.wrap .u64 (r2.1.2.2.2.1 * 4294967296)) + r2.1.2.2.2.2.2.1)), (Int.fdiv (IntKind.wrap .u64 ((IntKind.wrap .u64 ((IntKind.wrap .u64 (r2.1.2.2.2.2.1 * 4294967296)) + r2.1.2.2.1)) - (IntKind.wrap .u64 (r2.1.2.2.2.2.2.1 * r2.1.1)))) (2 ^ (min (r2.1.2.1).toNat 64))))
              else none
            else none
          else none
        else none
      else none
    else none
  else none
def wide_Div (N : Nat) (a0 : (Int × Int)) (a1 : Int) : Option ((Int × Int) × Int) :=
  bif (a1 == 0) then
    some ((0, 0), 0)
  else bif (!(decide (a1 = 0))) then
    bif (!(decide (a1 = 0))) then
      (bits_Div64 N (Int.tmod a0.1 a1) a0.2 a1).bind fun r0 =>
      some (((IntKind.wrap .u64 (Int.tdiv a0.1 a1)), r0.1), r0.2)
    else none
  else none
def wide_muldiv (N : Nat) (a0 : Int) (a1 : Int) (a2 : Int) : Option ((Int × Int) × (Bool × Int)) :=
  bif ((decide (a0 < 0)) == false) then
    bif ((decide (a1 < 0)) == false) then
      bif (decide (a2 ≤ 0)) then
        some ((0, 0), (false, 1))
      else (wide_Mul N (IntKind.wrap .u64 a0) (IntKind.wrap .u64 a1)).bind fun r0 =>
      (wide_Div N r0 (IntKind.wrap .u64 a2)).bind fun r1 =>
      some (r1.1, ((decide ((0 : Int) < r1.2)), 0))
    else some ((0, 0), (false, 1))
  else some ((0, 0), (false, 1))
def cmp_isNaN_uint64 (_N : Nat) (a0 : Int) : Option Bool :=
  some (!(a0 == a0))
def cmp_Compare_uint64 (N : Nat) (a0 : Int) (a1 : Int) : Option Int :=
  (cmp_isNaN_uint64 N a0).bind fun r0 =>
  (cmp_isNaN_uint64 N a1).bind fun r1 =>
  bif r0 then
    bif r1 then
      some 0
    else some (-1)
  else bif r1 then
    some 1
  else bif (decide (a0 < a1)) then
    some (-1)
  else bif (decide (a1 < a0)) then
    some 1
  else some 0
def cmp_Or_int_L3 (_N : Nat) (F : ((Int × (Int × (Int × Unit))) × ((List Int) × Unit)) → Option (((Int × Unit) × Unit) ⊕ ((Int × Unit) × Unit))) (x : ((Int × (Int × (Int × Unit))) × ((List Int) × Unit))) : Option (((Int × Unit) × Unit) ⊕ ((Int × Unit) × Unit)) :=
  bif (decide (x.1.2.2.1 < x.1.2.1)) then
    bif ((decide ((0 : Int) ≤ x.1.2.2.1)) && (decide (x.1.2.2.1 < (((x.2.1).length : Nat) : Int)))) then
      bif (!((x.2.1.getD (x.1.2.2.1).toNat 0) == x.1.1)) then
        some (.inl (((x.2.1.getD (x.1.2.2.1).toNat 0), ()), ()))
      else F ((x.1.1, (x.1.2.1, ((IntKind.wrap .i64 (x.1.2.2.1 + 1)), ()))), (x.2.1, ()))
    else none
  else some (.inr ((x.1.1, ()), ()))
def cmp_Or_int (N : Nat) (a0 : (List Int)) : Option Int :=
  (iter (cmp_Or_int_L3 N) N ((0, ((((a0).length : Nat) : Int), (0, ()))), (a0, ()))).bind fun r0 =>
  match r0 with
  | .inl r1 =>
    some r1.1.1
  | .inr r2 =>
    some r2.1.1
def wide_Cmp (N : Nat) (a0 : (Int × Int)) (a1 : (Int × Int)) : Option Int :=
  bif ((a0.1 == a1.1) && ((a0.2 == a1.2) && true)) then
    some 0
  else (cmp_Compare_uint64 N a0.1 a1.1).bind fun r0 =>
  (cmp_Compare_uint64 N a0.2 a1.2).bind fun r1 =>
  (cmp_Or_int N ([r0, r1] : List Int)).bind fun r2 =>
  some r2
def wide_told (N : Nat) (a0 : (Int × Int)) (a1 : Int) : Option (Int × Int) :=
  bif (!(a1 == 0)) then
    some (0, a1)
  else (wide_Cmp N a0 (0, 9223372036854775807)).bind fun r0 =>
  bif (decide ((0 : Int) < r0)) then
    some (0, 8)
  else some ((IntKind.wrap .i64 a0.2), 0)
def wide_MulDiv (N : Nat) (a0 : Int) (a1 : Int) (a2 : Int) : Option (Int × Int) :=
  (wide_muldiv N a0 a1 a2).bind fun r0 =>
  (wide_told N r0.1 r0.2.2).bind fun r1 =>
  some r1
def sat_Add (N : Nat) (a0 : Int) (a1 : Int) : Option Int :=
  bif (decide ((bits .and .i64 (bits .xor .i64 a0 (IntKind.wrap .i64 (a0 + a1))) (bits .xor .i64 a1 (IntKind.wrap .i64 (a0 + a1)))) < 0)) then
    (sat_end N (decide (a0 < 0))).bind fun r0 =>
    some r0
  else some (IntKind.wrap .i64 (a0 + a1))
def cubic_Target_j2 (N : Nat) (r0 : (Int × (Int × (Int × (Int × (Int × Int)))))) (r1 : Int) (r101 : Int) (p200 : Int) (p201 : Int) : Option Int :=
  bif (decide (r101 < 0)) then
    (sat_Add N r0.2.2.1 p200).bind fun r200 =>
    (sat_Clamp N r200 r1 1073741824).bind fun r201 =>
    some r201
  else
    (sat_Add N r0.2.2.1 p201).bind fun r202 =>
    (sat_Clamp N r202 r1 1073741824).bind fun r203 =>
    some r203
def cubic_Target_j1 (N : Nat) (r0 : (Int × (Int × (Int × (Int × (Int × Int)))))) (r1 : Int) (p100 : Int) : Option Int :=
  (cubic_Wait N r0.2.2.1 r0.2.2.2.2.1 r1).bind fun r100 =>
  (sat_Clamp N (IntKind.wrap .i64 (p100 - r100)) (-1048576) 1048576).bind fun r101 =>
  (sat_Abs N (IntKind.wrap .i64 ((IntKind.wrap .i64 (r101 * r101)) * r101))).bind fun r102 =>
  (wide_MulDiv N r102 r1 2500000000).bind fun r103 =>
  bif (! (r103.2 == 0)) then
    cubic_Target_j2 N r0 r1 r101 (-9223372036854775807) 9223372036854775807
  else
    cubic_Target_j2 N r0 r1 r101 (IntKind.wrap .i64 (0 - r103.1)) r103.1
def cubic_Target (N : Nat) (a0 : (Int × (Int × (Int × (Int × (Int × Int)))))) (a1 : Int) (a2 : Int) : Option Int :=
  (cubic_within N a0 a2).bind fun r0 =>
  (cubic_size N a2).bind fun r1 =>
  (sat_Clamp N a1 0 1125899906842624).bind fun r2 =>
  bif ((decide ((0 : Int) ≤ r0.2.2.2.1)) == true) then
    bif (decide (r0.2.2.2.1 < r2)) then
      cubic_Target_j1 N r0 r1 (IntKind.wrap .i64 (Int.tdiv (IntKind.wrap .i64 (r2 - r0.2.2.2.1)) 1000))
    else
      cubic_Target_j1 N r0 r1 0
  else
    cubic_Target_j1 N r0 r1 0
def leatref02_Bits_L3 (_N : Nat) (F : ((Int × (Int × (Int × Unit))) × ((List Int) × Unit)) → Option (Unit × ((List Int) × Unit))) (x : ((Int × (Int × (Int × Unit))) × ((List Int) × Unit))) : Option (Unit × ((List Int) × Unit)) :=
  bif (decide (x.1.2.2.1 < x.1.2.1)) then
    bif (decide ((((x.2.1).length + (([(IntKind.wrap .i64 (Int.tmod x.1.1 2))] : List Int)).length) * 8) ≤ 140737488355328)) then
      F (((IntKind.wrap .u64 (Int.tdiv x.1.1 2)), (x.1.2.1, ((IntKind.wrap .i64 (x.1.2.2.1 + 1)), ()))), ((x.2.1 ++ ([(IntKind.wrap .i64 (Int.tmod x.1.1 2))] : List Int)), ()))
    else none
  else some ((), (x.2.1, ()))
def leatref02_Bits (N : Nat) (a0 : Int) (a1 : Int) : Option (List Int) :=
  (iter (leatref02_Bits_L3 N) N ((a0, (a1, (0, ()))), (([] : List Int), ()))).bind fun r0 =>
  some r0.2.1
def leatref02_Add_L4 (_N : Nat) (F : ((Int × (Int × Unit)) × ((List Int) × ((List Int) × ((List Int) × Unit)))) → Option ((Int × Unit) × ((List Int) × Unit))) (x : ((Int × (Int × Unit)) × ((List Int) × ((List Int) × ((List Int) × Unit))))) : Option ((Int × Unit) × ((List Int) × Unit)) :=
  bif ((decide (x.1.2.1 < (((x.2.1).length : Nat) : Int))) == false) then
    bif (decide (x.1.2.1 < (((x.2.2.1).length : Nat) : Int))) then
      bif (decide (x.1.2.1 < (((x.2.1).length : Nat) : Int))) then
        bif ((decide ((0 : Int) ≤ x.1.2.1)) && (decide (x.1.2.1 < (((x.2.1).length : Nat) : Int)))) then
          bif (decide (x.1.2.1 < (((x.2.2.1).length : Nat) : Int))) then
            bif ((decide ((0 : Int) ≤ x.1.2.1)) && (decide (x.1.2.1 < (((x.2.2.1).length : Nat) : Int)))) then
              bif (decide ((((x.2.2.2.1).length + (([(Int.tmod (IntKind.wrap .i64 ((IntKind.wrap .i64 (x.1.1 + (x.2.1.getD (x.1.2.1).toNat 0))) + (x.2.2.1.getD (x.1.2.1).toNat 0))) 2)] : List Int)).length) * 8) ≤ 140737488355328)) then
                F (((IntKind.wrap .i64 (Int.tdiv (IntKind.wrap .i64 ((IntKind.wrap .i64 (x.1.1 + (x.2.1.getD (x.1.2.1).toNat 0))) + (x.2.2.1.getD (x.1.2.1).toNat 0))) 2)), ((IntKind.wrap .i64 (x.1.2.1 + 1)), ())), (x.2.1, (x.2.2.1, ((x.2.2.2.1 ++ ([(Int.tmod (IntKind.wrap .i64 ((IntKind.wrap .i64 (x.1.1 + (x.2.1.getD (x.1.2.1).toNat 0))) + (x.2.2.1.getD (x.1.2.1).toNat 0))) 2)] : List Int)), ()))))
              else none
            else none
          else bif (decide ((((x.2.2.2.1).length + (([(Int.tmod (IntKind.wrap .i64 (x.1.1 + (x.2.1.getD (x.1.2.1).toNat 0))) 2)] : List Int)).length) * 8) ≤ 140737488355328)) then
            F (((IntKind.wrap .i64 (Int.tdiv (IntKind.wrap .i64 (x.1.1 + (x.2.1.getD (x.1.2.1).toNat 0))) 2)), ((IntKind.wrap .i64 (x.1.2.1 + 1)), ())), (x.2.1, (x.2.2.1, ((x.2.2.2.1 ++ ([(Int.tmod (IntKind.wrap .i64 (x.1.1 + (x.2.1.getD (x.1.2.1).toNat 0))) 2)] : List Int)), ()))))
          else none
        else none
      else bif (decide (x.1.2.1 < (((x.2.2.1).length : Nat) : Int))) then
        bif ((decide ((0 : Int) ≤ x.1.2.1)) && (decide (x.1.2.1 < (((x.2.2.1).length : Nat) : Int)))) then
          bif (decide ((((x.2.2.2.1).length + (([(Int.tmod (IntKind.wrap .i64 (x.1.1 + (x.2.2.1.getD (x.1.2.1).toNat 0))) 2)] : List Int)).length) * 8) ≤ 140737488355328)) then
            F (((IntKind.wrap .i64 (Int.tdiv (IntKind.wrap .i64 (x.1.1 + (x.2.2.1.getD (x.1.2.1).toNat 0))) 2)), ((IntKind.wrap .i64 (x.1.2.1 + 1)), ())), (x.2.1, (x.2.2.1, ((x.2.2.2.1 ++ ([(Int.tmod (IntKind.wrap .i64 (x.1.1 + (x.2.2.1.getD (x.1.2.1).toNat 0))) 2)] : List Int)), ()))))
          else none
        else none
      else bif (decide ((((x.2.2.2.1).length + (([(Int.tmod x.1.1 2)] : List Int)).length) * 8) ≤ 140737488355328)) then
        F (((IntKind.wrap .i64 (Int.tdiv x.1.1 2)), ((IntKind.wrap .i64 (x.1.2.1 + 1)), ())), (x.2.1, (x.2.2.1, ((x.2.2.2.1 ++ ([(Int.tmod x.1.1 2)] : List Int)), ()))))
      else none
    else some ((x.1.1, ()), (x.2.2.2.1, ()))
  else bif (decide (x.1.2.1 < (((x.2.1).length : Nat) : Int))) then
    bif ((decide ((0 : Int) ≤ x.1.2.1)) && (decide (x.1.2.1 < (((x.2.1).length : Nat) : Int)))) then
      bif (decide (x.1.2.1 < (((x.2.2.1).length : Nat) : Int))) then
        bif ((decide ((0 : Int) ≤ x.1.2.1)) && (decide (x.1.2.1 < (((x.2.2.1).length : Nat) : Int)))) then
          bif (decide ((((x.2.2.2.1).length + (([(Int.tmod (IntKind.wrap .i64 ((IntKind.wrap .i64 (x.1.1 + (x.2.1.getD (x.1.2.1).toNat 0))) + (x.2.2.1.getD (x.1.2.1).toNat 0))) 2)] : List Int)).length) * 8) ≤ 140737488355328)) then
            F (((IntKind.wrap .i64 (Int.tdiv (IntKind.wrap .i64 ((IntKind.wrap .i64 (x.1.1 + (x.2.1.getD (x.1.2.1).toNat 0))) + (x.2.2.1.getD (x.1.2.1).toNat 0))) 2)), ((IntKind.wrap .i64 (x.1.2.1 + 1)), ())), (x.2.1, (x.2.2.1, ((x.2.2.2.1 ++ ([(Int.tmod (IntKind.wrap .i64 ((IntKind.wrap .i64 (x.1.1 + (x.2.1.getD (x.1.2.1).toNat 0))) + (x.2.2.1.getD (x.1.2.1).toNat 0))) 2)] : List Int)), ()))))
          else none
        else none
      else bif (decide ((((x.2.2.2.1).length + (([(Int.tmod (IntKind.wrap .i64 (x.1.1 + (x.2.1.getD (x.1.2.1).toNat 0))) 2)] : List Int)).length) * 8) ≤ 140737488355328)) then
        F (((IntKind.wrap .i64 (Int.tdiv (IntKind.wrap .i64 (x.1.1 + (x.2.1.getD (x.1.2.1).toNat 0))) 2)), ((IntKind.wrap .i64 (x.1.2.1 + 1)), ())), (x.2.1, (x.2.2.1, ((x.2.2.2.1 ++ ([(Int.tmod (IntKind.wrap .i64 (x.1.1 + (x.2.1.getD (x.1.2.1).toNat 0))) 2)] : List Int)), ()))))
      else none
    else none
  else bif (decide (x.1.2.1 < (((x.2.2.1).length : Nat) : Int))) then
    bif ((decide ((0 : Int) ≤ x.1.2.1)) && (decide (x.1.2.1 < (((x.2.2.1).length : Nat) : Int)))) then
      bif (decide ((((x.2.2.2.1).length + (([(Int.tmod (IntKind.wrap .i64 (x.1.1 + (x.2.2.1.getD (x.1.2.1).toNat 0))) 2)] : List Int)).length) * 8) ≤ 140737488355328)) then
        F (((IntKind.wrap .i64 (Int.tdiv (IntKind.wrap .i64 (x.1.1 + (x.2.2.1.getD (x.1.2.1).toNat 0))) 2)), ((IntKind.wrap .i64 (x.1.2.1 + 1)), ())), (x.2.1, (x.2.2.1, ((x.2.2.2.1 ++ ([(Int.tmod (IntKind.wrap .i64 (x.1.1 + (x.2.2.1.getD (x.1.2.1).toNat 0))) 2)] : List Int)), ()))))
      else none
    else none
  else bif (decide ((((x.2.2.2.1).length + (([(Int.tmod x.1.1 2)] : List Int)).length) * 8) ≤ 140737488355328)) then
    F (((IntKind.wrap .i64 (Int.tdiv x.1.1 2)), ((IntKind.wrap .i64 (x.1.2.1 + 1)), ())), (x.2.1, (x.2.2.1, ((x.2.2.2.1 ++ ([(Int.tmod x.1.1 2)] : List Int)), ()))))
  else none
def leatref02_Add (N : Nat) (a0 : (List Int)) (a1 : (List Int)) : Option (List Int) :=
  (iter (leatref02_Add_L4 N) N ((0, (0, ())), (a0, (a1, (([] : List Int), ()))))).bind fun r0 =>
  bif (decide ((((r0.2.1).length + (([r0.1.1] : List Int)).length) * 8) ≤ 140737488355328)) then
    some (r0.2.1 ++ ([r0.1.1] : List Int))
  else none
def leatref02_Mul_L3 (N : Nat) (F : ((Int × Unit) × ((List Int) × ((List Int) × ((List Int) × Unit)))) → Option (Unit × ((List Int) × Unit))) (x : ((Int × Unit) × ((List Int) × ((List Int) × ((List Int) × Unit))))) : Option (Unit × ((List Int) × Unit)) :=
  bif (decide (x.1.1 < (((x.2.2.1).length : Nat) : Int))) then
    bif ((decide ((0 : Int) ≤ x.1.1)) && (decide (x.1.1 < (((x.2.2.1).length : Nat) : Int)))) then
      bif ((x.2.2.1.getD (x.1.1).toNat 0) == 1) then
        bif ((decide ((0 : Int) ≤ x.1.1)) && (((decide (x.1.1 = x.1.1)) && (decide ((x.1.1 * 8) ≤ 140737488355328))) && (decide (x.1.1 ≤ 140737488355328)))) then
          bif (decide (((((List.replicate (x.1.1).toNat (0 : Int))).length + (x.2.1).length) * 8) ≤ 140737488355328)) then
            (leatref02_Add N x.2.2.2.1 ((List.replicate (x.1.1).toNat (0 : Int)) ++ x.2.1)).bind fun r0 =>
            F (((IntKind.wrap .i64 (x.1.1 + 1)), ()), (x.2.1, (x.2.2.1, (r0, ()))))
          else none
        else none
      else F (((IntKind.wrap .i64 (x.1.1 + 1)), ()), (x.2.1, (x.2.2.1, (x.2.2.2.1, ()))))
    else none
  else some ((), (x.2.2.2.1, ()))
def leatref02_Mul (N : Nat) (a0 : (List Int)) (a1 : (List Int)) : Option (List Int) :=
  (iter (leatref02_Mul_L3 N) N ((0, ()), (a0, (a1, (([0] : List Int), ()))))).bind fun r0 =>
  some r0.2.1
def leatref02_Cmp_L2 (_N : Nat) (F : ((Int × Unit) × ((List Int) × ((List Int) × Unit))) → Option (((Int × Unit) × Unit) ⊕ (Unit × Unit))) (x : ((Int × Unit) × ((List Int) × ((List Int) × Unit)))) : Option (((Int × Unit) × Unit) ⊕ (Unit × Unit)) :=
  bif (decide ((0 : Int) ≤ x.1.1)) then
    bif (decide (x.1.1 < (((x.2.1).length : Nat) : Int))) then
      bif ((decide ((0 : Int) ≤ x.1.1)) && (decide (x.1.1 < (((x.2.1).length : Nat) : Int)))) then
        bif (decide (x.1.1 < (((x.2.2.1).length : Nat) : Int))) then
          bif ((decide ((0 : Int) ≤ x.1.1)) && (decide (x.1.1 < (((x.2.2.1).length : Nat) : Int)))) then
            bif (decide ((x.2.1.getD (x.1.1).toNat 0) < (x.2.2.1.getD (x.1.1).toNat 0))) then
              some (.inl (((-1), ()), ()))
            else bif (decide ((x.2.2.1.getD (x.1.1).toNat 0) < (x.2.1.getD (x.1.1).toNat 0))) then
              some (.inl ((1, ()), ()))
            else F (((IntKind.wrap .i64 (x.1.1 - 1)), ()), (x.2.1, (x.2.2.1, ())))
          else none
        else bif (decide ((x.2.1.getD (x.1.1).toNat 0) < 0)) then
          some (.inl (((-1), ()), ()))
        else bif (decide ((0 : Int) < (x.2.1.getD (x.1.1).toNat 0))) then
          some (.inl ((1, ()), ()))
        else F (((IntKind.wrap .i64 (x.1.1 - 1)), ()), (x.2.1, (x.2.2.1, ())))
      else none
    else bif (decide (x.1.1 < (((x.2.2.1).length : Nat) : Int))) then
      bif ((decide ((0 : Int) ≤ x.1.1)) && (decide (x.1.1 < (((x.2.2.1).length : Nat) : Int)))) then
        bif (decide ((0 : Int) < (x.2.2.1.getD (x.1.1).toNat 0))) then
          some (.inl (((-1), ()), ()))
        else bif (decide ((x.2.2.1.getD (x.1.1).toNat 0) < 0)) then
          some (.inl ((1, ()), ()))
        else F (((IntKind.wrap .i64 (x.1.1 - 1)), ()), (x.2.1, (x.2.2.1, ())))
      else none
    else F (((IntKind.wrap .i64 (x.1.1 - 1)), ()), (x.2.1, (x.2.2.1, ())))
  else some (.inr ((), ()))
def leatref02_Cmp (N : Nat) (a0 : (List Int)) (a1 : (List Int)) : Option Int :=
  (iter (leatref02_Cmp_L2 N) N (((IntKind.wrap .i64 ((if (((a1).length : Nat) : Int) > (((a0).length : Nat) : Int) then (((a1).length : Nat) : Int) else (((a0).length : Nat) : Int)) - 1)), ()), (a0, (a1, ())))).bind fun r0 =>
  match r0 with
  | .inl r1 =>
    some r1.1.1
  | .inr _ =>
    some 0
def leatref02_Sub_L4 (_N : Nat) (F : ((Int × (Int × Unit)) × ((List Int) × ((List Int) × ((List Int) × Unit)))) → Option (Unit × ((List Int) × Unit))) (x : ((Int × (Int × Unit)) × ((List Int) × ((List Int) × ((List Int) × Unit))))) : Option (Unit × ((List Int) × Unit)) :=
  bif (decide (x.1.2.1 < (((x.2.1).length : Nat) : Int))) then
    bif ((decide ((0 : Int) ≤ x.1.2.1)) && (decide (x.1.2.1 < (((x.2.1).length : Nat) : Int)))) then
      bif (decide (x.1.2.1 < (((x.2.2.1).length : Nat) : Int))) then
        bif ((decide ((0 : Int) ≤ x.1.2.1)) && (decide (x.1.2.1 < (((x.2.2.1).length : Nat) : Int)))) then
          bif (decide ((IntKind.wrap .i64 ((IntKind.wrap .i64 ((x.2.1.getD (x.1.2.1).toNat 0) - x.1.1)) - (x.2.2.1.getD (x.1.2.1).toNat 0))) < 0)) then
            bif (decide ((((x.2.2.2.1).length + (([(IntKind.wrap .i64 ((IntKind.wrap .i64 ((IntKind.wrap .i64 ((x.2.1.getD (x.1.2.1).toNat 0) - x.1.1)) - (x.2.2.1.getD (x.1.2.1).toNat 0))) + 2))] : List Int)).length) * 8) ≤ 140737488355328)) then
              F ((1, ((IntKind.wrap .i64 (x.1.2.1 + 1)), ())), (x.2.1, (x.2.2.1, ((x.2.2.2.1 ++ ([(IntKind.wrap .i64 ((IntKind.wrap .i64 ((IntKind.wrap .i64 ((x.2.1.getD (x.1.2.1).toNat 0) - x.1.1)) - (x.2.2.1.getD (x.1.2.1).toNat 0))) + 2))] : List Int)), ()))))
            else none
          else bif (decide ((((x.2.2.2.1).length + (([(IntKind.wrap .i64 ((IntKind.wrap .i64 ((x.2.1.getD (x.1.2.1).toNat 0) - x.1.1)) - (x.2.2.1.getD (x.1.2.1).toNat 0)))] : List Int)).length) * 8) ≤ 140737488355328)) then
            F ((0, ((IntKind.wrap .i64 (x.1.2.1 + 1)), ())), (x.2.1, (x.2.2.1, ((x.2.2.2.1 ++ ([(IntKind.wrap .i64 ((IntKind.wrap .i64 ((x.2.1.getD (x.1.2.1).toNat 0) - x.1.1)) - (x.2.2.1.getD (x.1.2.1).toNat 0)))] : List Int)), ()))))
          else none
        else none
      else bif (decide ((IntKind.wrap .i64 ((x.2.1.getD (x.1.2.1).toNat 0) - x.1.1)) < 0)) then
        bif (decide ((((x.2.2.2.1).length + (([(IntKind.wrap .i64 ((IntKind.wrap .i64 ((x.2.1.getD (x.1.2.1).toNat 0) - x.1.1)) + 2))] : List Int)).length) * 8) ≤ 140737488355328)) then
          F ((1, ((IntKind.wrap .i64 (x.1.2.1 + 1)), ())), (x.2.1, (x.2.2.1, ((x.2.2.2.1 ++ ([(IntKind.wrap .i64 ((IntKind.wrap .i64 ((x.2.1.getD (x.1.2.1).toNat 0) - x.1.1)) + 2))] : List Int)), ()))))
        else none
      else bif (decide ((((x.2.2.2.1).length + (([(IntKind.wrap .i64 ((x.2.1.getD (x.1.2.1).toNat 0) - x.1.1))] : List Int)).length) * 8) ≤ 140737488355328)) then
        F ((0, ((IntKind.wrap .i64 (x.1.2.1 + 1)), ())), (x.2.1, (x.2.2.1, ((x.2.2.2.1 ++ ([(IntKind.wrap .i64 ((x.2.1.getD (x.1.2.1).toNat 0) - x.1.1))] : List Int)), ()))))
      else none
    else none
  else some ((), (x.2.2.2.1, ()))
def leatref02_Sub (N : Nat) (a0 : (List Int)) (a1 : (List Int)) : Option (List Int) :=
  (iter (leatref02_Sub_L4 N) N ((0, (0, ())), (a0, (a1, (([] : List Int), ()))))).bind fun r0 =>
  some r0.2.1
def leatref02_Div_L4 (N : Nat) (F : ((Int × Unit) × ((List Int) × ((List Int) × ((List Int) × ((List Int) × Unit))))) → Option (Unit × ((List Int) × ((List Int) × Unit)))) (x : ((Int × Unit) × ((List Int) × ((List Int) × ((List Int) × ((List Int) × Unit)))))) : Option (Unit × ((List Int) × ((List Int) × Unit))) :=
  bif (decide ((0 : Int) ≤ x.1.1)) then
    bif ((decide ((0 : Int) ≤ x.1.1)) && (decide (x.1.1 < (((x.2.1).length : Nat) : Int)))) then
      bif (decide ((((([(x.2.1.getD (x.1.1).toNat 0)] : List Int)).length + (x.2.2.2.2.1).length) * 8) ≤ 140737488355328)) then
        (leatref02_Cmp N (([(x.2.1.getD (x.1.1).toNat 0)] : List Int) ++ x.2.2.2.2.1) x.2.2.1).bind fun r0 =>
        bif (decide ((0 : Int) ≤ r0)) then
          (leatref02_Sub N (([(x.2.1.getD (x.1.1).toNat 0)] : List Int) ++ x.2.2.2.2.1) x.2.2.1).bind fun r1 =>
          bif ((decide ((0 : Int) ≤ x.1.1)) && (decide (x.1.1 < (((x.2.2.2.1).length : Nat) : Int)))) then
            F (((IntKind.wrap .i64 (x.1.1 - 1)), ()), (x.2.1, (x.2.2.1, ((x.2.2.2.1.set (x.1.1).toNat 1), (r1, ())))))
          else none
        else F (((IntKind.wrap .i64 (x.1.1 - 1)), ()), (x.2.1, (x.2.2.1, (x.2.2.2.1, ((([(x.2.1.getD (x.1.1).toNat 0)] : List Int) ++ x.2.2.2.2.1), ())))))
      else none
    else none
  else some ((), (x.2.2.2.1, (x.2.2.2.2.1, ())))
def leatref02_Div (N : Nat) (a0 : (List Int)) (a1 : (List Int)) : Option ((List Int) × (List Int)) :=
  bif ((decide ((0 : Int) ≤ (((a0).length : Nat) : Int))) && (((decide ((((a0).length : Nat) : Int) = (((a0).length : Nat) : Int))) && (decide (((((a0).length : Nat) : Int) * 8) ≤ 140737488355328))) && (decide ((((a0).length : Nat) : Int) ≤ 140737488355328)))) then
    (iter (leatref02_Div_L4 N) N (((IntKind.wrap .i64 ((((a0).length : Nat) : Int) - 1)), ()), (a0, (a1, ((List.replicate ((((a0).length : Nat) : Int)).toNat (0 : Int)), (([0] : List Int), ())))))).bind fun r0 =>
    some (r0.2.1, r0.2.2.1)
  else none
def leatref02_Num_L3 (_N : Nat) (F : ((Int × (Int × (Int × Unit))) × ((List Int) × Unit)) → Option ((Int × Unit) × Unit)) (x : ((Int × (Int × (Int × Unit))) × ((List Int) × Unit))) : Option ((Int × Unit) × Unit) :=
  bif (decide ((0 : Int) ≤ x.1.2.2.1)) then
    bif ((decide ((IntKind.wrap .i64 (x.1.1 + x.1.2.2.1)) < (((x.2.1).length : Nat) : Int))) == true) then
      bif ((decide ((0 : Int) ≤ (IntKind.wrap .i64 (x.1.1 + x.1.2.2.1)))) && (decide ((IntKind.wrap .i64 (x.1.1 + x.1.2.2.1)) < (((x.2.1).length : Nat) : Int)))) then
        bif ((x.2.1.getD ((IntKind.wrap .i64 (x.1.1 + x.1.2.2.1))).toNat 0) == 1) then
          F ((x.1.1, ((IntKind.wrap .u64 ((IntKind.wrap .u64 (x.1.2.1 * 2)) + 1)), ((IntKind.wrap .i64 (x.1.2.2.1 - 1)), ()))), (x.2.1, ()))
        else F ((x.1.1, ((IntKind.wrap .u64 (x.1.2.1 * 2)), ((IntKind.wrap .i64 (x.1.2.2.1 - 1)), ()))), (x.2.1, ()))
      else none
    else F ((x.1.1, ((IntKind.wrap .u64 (x.1.2.1 * 2)), ((IntKind.wrap .i64 (x.1.2.2.1 - 1)), ()))), (x.2.1, ()))
  else some ((x.1.2.1, ()), ())
def leatref02_Num (N : Nat) (a0 : (List Int)) (a1 : Int) : Option Int :=
  (iter (leatref02_Num_L3 N) N ((a1, (0, (63, ()))), (a0, ()))).bind fun r0 =>
  some r0.1.1
def leatref02_MulDiv (N : Nat) (a0 : Int) (a1 : Int) (a2 : Int) (a3 : Bool) : Option (Int × Int) :=
  bif ((decide (a0 < 0)) == false) then
    bif ((decide (a1 < 0)) == false) then
      bif (decide (a2 ≤ 0)) then
        some (0, 1)
      else (leatref02_Bits N (IntKind.wrap .u64 a0) 64).bind fun r0 =>
      (leatref02_Bits N (IntKind.wrap .u64 a1) 64).bind fun r1 =>
      (leatref02_Mul N r0 r1).bind fun r2 =>
      (leatref02_Bits N (IntKind.wrap .u64 a2) 64).bind fun r3 =>
      (leatref02_Div N r2 r3).bind fun r4 =>
      bif (a3 == true) then
        (leatref02_Cmp N r4.2 ([0] : List Int)).bind fun r5 =>
        bif (decide ((0 : Int) < r5)) then
          (leatref02_Add N r4.1 ([1] : List Int)).bind fun r6 =>
          (leatref02_Bits N 9223372036854775807 64).bind fun r7 =>
          (leatref02_Cmp N r6 r7).bind fun r8 =>
          bif (decide ((0 : Int) < r8)) then
            some (0, 8)
          else (leatref02_Num N r6 0).bind fun r9 =>
          some ((IntKind.wrap .i64 r9), 0)
        else (leatref02_Bits N 9223372036854775807 64).bind fun r10 =>
        (leatref02_Cmp N r4.1 r10).bind fun r11 =>
        bif (decide ((0 : Int) < r11)) then
          some (0, 8)
        else (leatref02_Num N r4.1 0).bind fun r12 =>
        some ((IntKind.wrap .i64 r12), 0)
      else (leatref02_Bits N 9223372036854775807 64).bind fun r13 =>
      (leatref02_Cmp N r4.1 r13).bind fun r14 =>
      bif (decide ((0 : Int) < r14)) then
        some (0, 8)
      else (leatref02_Num N r4.1 0).bind fun r15 =>
      some ((IntKind.wrap .i64 r15), 0)
    else some (0, 1)
  else some (0, 1)
def leatref49_Target_j2 (N : Nat) (a2 : Int) (r0 : (Int × (Int × (Int × (Int × (Int × Int)))))) (r101 : Int) (p200 : Int) : Option Int :=
  (leatref49_Size N a2).bind fun r200 =>
  (leatref02_MulDiv N (IntKind.wrap .i64 ((IntKind.wrap .i64 (p200 * p200)) * p200)) r200 2500000000 false).bind fun r201 =>
  bif (decide (r101 < 0)) then
    (leatref49_Size N a2).bind fun r202 =>
    (leatref49_keep N (IntKind.wrap .i64 (r0.2.2.1 - r201.1)) r202 1073741824).bind fun r203 =>
    some r203
  else
    (leatref49_Size N a2).bind fun r204 =>
    (leatref49_keep N (IntKind.wrap .i64 (r0.2.2.1 + r201.1)) r204 1073741824).bind fun r205 =>
    some r205
def leatref49_Target_j1 (N : Nat) (a2 : Int) (r0 : (Int × (Int × (Int × (Int × (Int × Int)))))) (p100 : Int) : Option Int :=
  (leatref49_Wait N r0.2.2.1 r0.2.2.2.2.1 a2).bind fun r100 =>
  (leatref49_keep N (IntKind.wrap .i64 (p100 - r100)) (-1048576) 1048576).bind fun r101 =>
  bif (decide (r101 < 0)) then
    leatref49_Target_j2 N a2 r0 r101 (IntKind.wrap .i64 (0 - r101))
  else
    leatref49_Target_j2 N a2 r0 r101 r101
def leatref49_Target (N : Nat) (a0 : (Int × (Int × (Int × (Int × (Int × Int)))))) (a1 : Int) (a2 : Int) : Option Int :=
  (leatref49_Within N a0 a2).bind fun r0 =>
  (leatref49_keep N a1 0 1125899906842624).bind fun r1 =>
  bif ((decide ((0 : Int) ≤ r0.2.2.2.1)) == true) then
    bif (decide (r0.2.2.2.1 < r1)) then
      leatref49_Target_j1 N a2 r0 (IntKind.wrap .i64 (Int.tdiv (IntKind.wrap .i64 (r1 - r0.2.2.2.1)) 1000))
    else
      leatref49_Target_j1 N a2 r0 0
  else
    leatref49_Target_j1 N a2 r0 0
def cubic_Hear_j3 (N : Nat) (p100 : Int) (p102 : Int) (p201 : Int) (p202 : Int) (p203 : Int) (r0 : (Int × (Int × (Int × (Int × (Int × Int)))))) (p300 : Int) : Option (Int × (Int × (Int × (Int × (Int × Int))))) :=
  (sat_Add N r0.2.2.2.2.2 p300).bind fun r300 =>
  some ((IntKind.wrap .i64 (p102 + (imn (imn (imn r300 1073741824) (IntKind.wrap .i64 (Int.tdiv (IntKind.wrap .i64 (p100 + 1)) 2))) (IntKind.wrap .i64 (1073741824 - p102))))), (r0.2.1, (p201, (p202, (p203, (IntKind.wrap .i64 ((imn r300 1073741824) - (imn (imn (imn r300 1073741824) (IntKind.wrap .i64 (Int.tdiv (IntKind.wrap .i64 (p100 + 1)) 2))) (IntKind.wrap .i64 (1073741824 - p102))))))))))
def cubic_Hear_j2 (N : Nat) (a2 : Int) (p100 : Int) (p102 : Int) (r0 : (Int × (Int × (Int × (Int × (Int × Int)))))) (r1 : Int) (p200 : (Int × (Int × (Int × (Int × (Int × Int)))))) (p201 : Int) (p202 : Int) (p203 : Int) : Option (Int × (Int × (Int × (Int × (Int × Int))))) :=
  bif (! (decide ((IntKind.wrap .i64 (100 * p102)) = 0))) then
    (cubic_Target N p200 a2 r1).bind fun r200 =>
    bif (decide (p102 < r200)) then
      (wide_MulDiv N (IntKind.wrap .i64 (r200 - p102)) p100 p102).bind fun r201 =>
      bif (! (r201.2 == 0)) then
        cubic_Hear_j3 N p100 p102 p201 p202 p203 r0 9223372036854775807
      else
        cubic_Hear_j3 N p100 p102 p201 p202 p203 r0 r201.1
    else
      cubic_Hear_j3 N p100 p102 p201 p202 p203 r0 (IntKind.wrap .i64 (Int.tdiv (IntKind.wrap .i64 (p100 * r1)) (IntKind.wrap .i64 (100 * p102))))
  else
    none
def cubic_Hear_j1 (N : Nat) (a2 : Int) (r0 : (Int × (Int × (Int × (Int × (Int × Int)))))) (r1 : Int) (p100 : Int) (p101 : (Int × (Int × (Int × (Int × (Int × Int)))))) (p102 : Int) : Option (Int × (Int × (Int × (Int × (Int × Int))))) :=
  bif (p100 == 0) then
    some p101
  else
    bif (decide (r0.2.2.2.1 < 0)) then
      (sat_Clamp N a2 0 1125899906842624).bind fun r100 =>
      cubic_Hear_j2 N a2 p100 p102 r0 r1 (p102, (r0.2.1, ((imx r0.2.2.1 p102), (r100, (p102, r0.2.2.2.2.2))))) (imx r0.2.2.1 p102) r100 p102
    else
      cubic_Hear_j2 N a2 p100 p102 r0 r1 p101 r0.2.2.1 r0.2.2.2.1 r0.2.2.2.2.1
def cubic_Hear (N : Nat) (a0 : (Int × (Int × (Int × (Int × (Int × Int)))))) (a1 : Int) (a2 : Int) (a3 : Int) : Option (Int × (Int × (Int × (Int × (Int × Int))))) :=
  (cubic_within N a0 a3).bind fun r0 =>
  (cubic_size N a3).bind fun r1 =>
  (sat_Clamp N a1 0 16777216).bind fun r2 =>
  bif (decide (r0.1 < r0.2.1)) then
    cubic_Hear_j1 N a2 r0 r1 (IntKind.wrap .i64 (r2 - (imn r2 (IntKind.wrap .i64 (r0.2.1 - r0.1))))) ((IntKind.wrap .i64 (r0.1 + (imn r2 (IntKind.wrap .i64 (r0.2.1 - r0.1))))), r0.2) (IntKind.wrap .i64 (r0.1 + (imn r2 (IntKind.wrap .i64 (r0.2.1 - r0.1)))))
  else
    cubic_Hear_j1 N a2 r0 r1 r2 r0 r0.1
def leatref49_Hear_j4 (_N : Nat) (p102 : Int) (p201 : Int) (p202 : Int) (p203 : Int) (p300 : Int) (r0 : (Int × (Int × (Int × (Int × (Int × Int)))))) (p400 : Int) : Option (Int × (Int × (Int × (Int × (Int × Int))))) :=
  bif (decide ((IntKind.wrap .i64 (1073741824 - p102)) < p400)) then
    some ((IntKind.wrap .i64 (p102 + (IntKind.wrap .i64 (1073741824 - p102)))), (r0.2.1, (p201, (p202, (p203, (IntKind.wrap .i64 ((imn (IntKind.wrap .i64 (r0.2.2.2.2.2 + p300)) 1073741824) - (IntKind.wrap .i64 (1073741824 - p102)))))))))
  else
    some ((IntKind.wrap .i64 (p102 + p400)), (r0.2.1, (p201, (p202, (p203, (IntKind.wrap .i64 ((imn (IntKind.wrap .i64 (r0.2.2.2.2.2 + p300)) 1073741824) - p400)))))))
def leatref49_Hear_j3 (N : Nat) (p100 : Int) (p102 : Int) (p201 : Int) (p202 : Int) (p203 : Int) (r0 : (Int × (Int × (Int × (Int × (Int × Int)))))) (p300 : Int) : Option (Int × (Int × (Int × (Int × (Int × Int))))) :=
  bif (decide ((IntKind.wrap .i64 (Int.tdiv (IntKind.wrap .i64 (p100 + 1)) 2)) < (imn (IntKind.wrap .i64 (r0.2.2.2.2.2 + p300)) 1073741824))) then
    leatref49_Hear_j4 N p102 p201 p202 p203 p300 r0 (IntKind.wrap .i64 (Int.tdiv (IntKind.wrap .i64 (p100 + 1)) 2))
  else
    leatref49_Hear_j4 N p102 p201 p202 p203 p300 r0 (imn (IntKind.wrap .i64 (r0.2.2.2.2.2 + p300)) 1073741824)
def leatref49_Hear_j2 (N : Nat) (a2 : Int) (a3 : Int) (p100 : Int) (p102 : Int) (r0 : (Int × (Int × (Int × (Int × (Int × Int)))))) (p200 : (Int × (Int × (Int × (Int × (Int × Int)))))) (p201 : Int) (p202 : Int) (p203 : Int) : Option (Int × (Int × (Int × (Int × (Int × Int))))) :=
  (leatref49_Target N p200 a2 a3).bind fun r200 =>
  bif (decide (p102 < r200)) then
    (leatref02_MulDiv N (IntKind.wrap .i64 (r200 - p102)) p100 p102 false).bind fun r201 =>
    leatref49_Hear_j3 N p100 p102 p201 p202 p203 r0 r201.1
  else
    (leatref49_Size N a3).bind fun r202 =>
    bif (! (decide ((IntKind.wrap .i64 (100 * p102)) = 0))) then
      leatref49_Hear_j3 N p100 p102 p201 p202 p203 r0 (IntKind.wrap .i64 (Int.tdiv (IntKind.wrap .i64 (p100 * r202)) (IntKind.wrap .i64 (100 * p102))))
    else
      none
def leatref49_Hear_j1 (N : Nat) (a2 : Int) (a3 : Int) (r0 : (Int × (Int × (Int × (Int × (Int × Int)))))) (p100 : Int) (p101 : (Int × (Int × (Int × (Int × (Int × Int)))))) (p102 : Int) : Option (Int × (Int × (Int × (Int × (Int × Int))))) :=
  bif (p100 == 0) then
    some p101
  else
    bif (r0.2.2.2.1 == (-1)) then
      (leatref49_keep N a2 0 1125899906842624).bind fun r100 =>
      bif (decide (r0.2.2.1 < p102)) then
        leatref49_Hear_j2 N a2 a3 p100 p102 r0 (p102, (r0.2.1, (p102, (r100, (p102, r0.2.2.2.2.2))))) p102 r100 p102
      else
        leatref49_Hear_j2 N a2 a3 p100 p102 r0 (p102, (r0.2.1, (r0.2.2.1, (r100, (p102, r0.2.2.2.2.2))))) r0.2.2.1 r100 p102
    else
      leatref49_Hear_j2 N a2 a3 p100 p102 r0 p101 r0.2.2.1 r0.2.2.2.1 r0.2.2.2.2.1
def leatref49_Hear (N : Nat) (a0 : (Int × (Int × (Int × (Int × (Int × Int)))))) (a1 : Int) (a2 : Int) (a3 : Int) : Option (Int × (Int × (Int × (Int × (Int × Int))))) :=
  (leatref49_Within N a0 a3).bind fun r0 =>
  (leatref49_keep N a1 0 16777216).bind fun r1 =>
  bif (decide (r0.1 < r0.2.1)) then
    leatref49_Hear_j1 N a2 a3 r0 (IntKind.wrap .i64 (r1 - (imn r1 (IntKind.wrap .i64 (r0.2.1 - r0.1))))) ((IntKind.wrap .i64 (r0.1 + (imn r1 (IntKind.wrap .i64 (r0.2.1 - r0.1))))), r0.2) (IntKind.wrap .i64 (r0.1 + (imn r1 (IntKind.wrap .i64 (r0.2.1 - r0.1)))))
  else
    leatref49_Hear_j1 N a2 a3 r0 r1 r0 r0.1

def leatlaw49_CubicHears (N : Nat) (a0 : (Int × (Int × (Int × (Int × (Int × Int)))))) (a1 : Int) (a2 : (Int × Int)) : Option Bool :=
  (cubic_Target N a0 a2.1 a2.2).bind fun r0 =>
  (leatref49_Target N a0 a2.1 a2.2).bind fun r1 =>
  bif ((r0 == r1) == true) then
    (cubic_Hear N a0 a1 a2.1 a2.2).bind fun r2 =>
    (leatref49_Hear N a0 a1 a2.1 a2.2).bind fun r3 =>
    bif (((r2.1 == r3.1) && ((r2.2.1 == r3.2.1) && ((r2.2.2.1 == r3.2.2.1) && ((r2.2.2.2.1 == r3.2.2.2.1) && ((r2.2.2.2.2.1 == r3.2.2.2.2.1) && ((r2.2.2.2.2.2 == r3.2.2.2.2.2) && true)))))) == true) then
      (leatlaw49_works N).bind fun r4 =>
      some r4
    else
      some false
  else
    some false

def leatlaw49_CubicKeeps (N : Nat) (a0 : (Int × (Int × (Int × (Int × (Int × Int)))))) (a1 : (Int × Int)) (a2 : (Int × (Int × Int))) : Option Bool :=
  (leatref49_Within N a0 a1.2).bind fun r0 =>
  (cubic_Hear N r0 (imn (imx a1.1 0) 16777216) a2.1 a1.2).bind fun r1 =>
  (cubic_Cut N r0 a1.2).bind fun r2 =>
  (cubic_Target N r0 (imn a2.1 a2.2.1) a1.2).bind fun r3 =>
  (cubic_Target N r0 (imx a2.1 a2.2.1) a1.2).bind fun r4 =>
  (cubic_Root N (imn (imx a2.2.2 0) 1152921504606846976)).bind fun r5 =>
  bif ((decide (r0.1 ≤ r1.1)) == true) then
    bif ((decide ((IntKind.wrap .i64 (r1.1 - r0.1)) ≤ (imn (imx a1.1 0) 16777216))) == true) then
      bif ((decide (r2.1 ≤ r0.1)) == true) then
        bif ((decide ((0 : Int) < r2.1)) == true) then
          bif ((decide (r3 ≤ r4)) == true) then
            (leatref49_Size N a1.2).bind fun r6 =>
            bif ((decide (r6 ≤ r3)) == true) then
              bif ((decide ((IntKind.wrap .i64 ((IntKind.wrap .i64 (r5 * r5)) * r5)) ≤ (imn (imx a2.2.2 0) 1152921504606846976))) == true) then
                bif ((decide ((imn (imx a2.2.2 0) 1152921504606846976) < (IntKind.wrap .i64 ((IntKind.wrap .i64 ((IntKind.wrap .i64 (r5 + 1)) * (IntKind.wrap .i64 (r5 + 1)))) * (IntKind.wrap .i64 (r5 + 1)))))) == true) then
                  (leatlaw49_works N).bind fun r7 =>
                  some r7
                else
                  some false
              else
                some false
            else
              some false
          else
            some false
        else
          some false
      else
        some false
    else
      some false
  else
    some false

def link_within (N : Nat) (a0 : (Int × (Int × Int))) : Option (Int × (Int × Int)) :=
  (sat_Clamp N a0.1 1 1099511627776).bind fun r0 =>
  (sat_Clamp N a0.2.1 0 1152921504606846976).bind fun r1 =>
  (sat_Clamp N a0.2.2 0 1152921504606846976).bind fun r2 =>
  some (r0, (r1, r2))
def sat_Div (_N : Nat) (a0 : Int) (a1 : Int) : Option Int :=
  bif (a1 == 0) then
    some 0
  else bif ((a0 == (-9223372036854775808)) == true) then
    bif (a1 == (-1)) then
      some 9223372036854775807
    else bif (!(decide (a1 = 0))) then
      bif (!(decide (a1 = 0))) then
        bif ((!((Int.tmod a0 a1) == 0)) == true) then
          bif (!((decide (a0 < 0)) == (decide (a1 < 0)))) then
            some (IntKind.wrap .i64 ((IntKind.wrap .i64 (Int.tdiv a0 a1)) - 1))
          else some (IntKind.wrap .i64 (Int.tdiv a0 a1))
        else some (IntKind.wrap .i64 (Int.tdiv a0 a1))
      else none
    else none
  else bif (!(decide (a1 = 0))) then
    bif (!(decide (a1 = 0))) then
      bif ((!((Int.tmod a0 a1) == 0)) == true) then
        bif (!((decide (a0 < 0)) == (decide (a1 < 0)))) then
          some (IntKind.wrap .i64 ((IntKind.wrap .i64 (Int.tdiv a0 a1)) - 1))
        else some (IntKind.wrap .i64 (Int.tdiv a0 a1))
      else some (IntKind.wrap .i64 (Int.tdiv a0 a1))
    else none
  else none

def link_Span (N : Nat) (a0 : Int) (a1 : Int) : Option Int :=
  (sat_Clamp N a0 1 65536).bind fun r0 =>
  (sat_Clamp N a1 1 1099511627776).bind fun r1 =>
  (sat_Div N (IntKind.wrap .i64 ((IntKind.wrap .i64 (0 - r0)) * 1000000)) r1).bind fun r2 =>
  some (IntKind.wrap .i64 (0 - r2))

def link_Take (N : Nat) (a0 : (Int × (Int × Int))) (a1 : Int) (a2 : Int) : Option ((Int × (Int × Int)) × (Int × Int)) :=
  (link_within N a0).bind fun r0 =>
  (sat_Clamp N a1 0 1125899906842624).bind fun r1 =>
  (link_Span N a2 r0.1).bind fun r2 =>
  (link_within N (r0.1, ((IntKind.wrap .i64 ((imx r1 r0.2.1) + r2)), (IntKind.wrap .i64 (r0.2.2 + r2))))).bind fun r3 =>
  some (r3, ((imx r1 r0.2.1), (IntKind.wrap .i64 ((imx r1 r0.2.1) + r2))))

def leatref37_keep (_N : Nat) (a0 : Int) (a1 : Int) (a2 : Int) : Option Int :=
  some (imn (imx a0 a1) a2)

def leatref37_Within (N : Nat) (a0 : (Int × (Int × Int))) : Option (Int × (Int × Int)) :=
  (leatref37_keep N a0.1 1 1099511627776).bind fun r0 =>
  (leatref37_keep N a0.2.1 0 1152921504606846976).bind fun r1 =>
  (leatref37_keep N a0.2.2 0 1152921504606846976).bind fun r2 =>
  some (r0, (r1, r2))

def leatref37_Span (N : Nat) (a0 : Int) (a1 : Int) : Option Int :=
  (leatref37_keep N a1 1 1099511627776).bind fun r0 =>
  (leatref37_keep N a0 1 65536).bind fun r1 =>
  bif (! (decide (r0 = 0))) then
    some (IntKind.wrap .i64 (Int.tdiv (IntKind.wrap .i64 ((IntKind.wrap .i64 ((IntKind.wrap .i64 (r1 * 1000000)) + r0)) - 1)) r0))
  else
    none

def leatref37_Take (N : Nat) (a0 : (Int × (Int × Int))) (a1 : Int) (a2 : Int) : Option ((Int × (Int × Int)) × (Int × Int)) :=
  (leatref37_Within N a0).bind fun r0 =>
  (leatref37_keep N a1 0 1125899906842624).bind fun r1 =>
  (leatref37_Span N a2 r0.1).bind fun r2 =>
  (leatref37_Within N (r0.1, ((IntKind.wrap .i64 ((imx r1 r0.2.1) + r2)), (IntKind.wrap .i64 ((IntKind.wrap .i64 (r0.2.2 + (IntKind.wrap .i64 ((imx r1 r0.2.1) + r2)))) - (imx r1 r0.2.1)))))).bind fun r3 =>
  some (r3, ((imx r1 r0.2.1), (IntKind.wrap .i64 ((imx r1 r0.2.1) + r2))))

def link_Room (N : Nat) (a0 : Int) (a1 : Int) : Option Int :=
  (sat_Clamp N a0 1 1099511627776).bind fun r0 =>
  (sat_Clamp N a1 0 1125899906842624).bind fun r1 =>
  (sat_Mul N r0 (IntKind.wrap .i64 (Int.tdiv r1 1000000))).bind fun r2 =>
  (sat_Add N r2 (IntKind.wrap .i64 (Int.tdiv (IntKind.wrap .i64 (r0 * (Int.tmod r1 1000000))) 1000000))).bind fun r3 =>
  some r3

def leatref37_Room (N : Nat) (a0 : Int) (a1 : Int) : Option Int :=
  (leatref37_keep N a0 1 1099511627776).bind fun r0 =>
  (leatref37_keep N a1 0 1125899906842624).bind fun r1 =>
  (leatref02_MulDiv N r0 r1 1000000 false).bind fun r2 =>
  bif (! (r2.2 == 0)) then
    some 9223372036854775807
  else
    some r2.1

def link_Idle (N : Nat) (a0 : (Int × (Int × Int))) (a1 : Int) : Option Bool :=
  (sat_Clamp N a1 0 1125899906842624).bind fun r0 =>
  (link_within N a0).bind fun r1 =>
  some (decide (r1.2.1 ≤ r0))

def leatlaw37_works (N : Nat) : Option Bool :=
  (link_Span N 1500 1250000).bind fun r0 =>
  some (r0 == 1200)

def leatlaw37_LinkTakes (N : Nat) (a0 : (Int × (Int × Int))) (a1 : Int) (a2 : Int) : Option Bool :=
  (link_Take N a0 a1 a2).bind fun r0 =>
  (leatref37_Take N a0 a1 a2).bind fun r1 =>
  bif (((r0.1.1 == r1.1.1) && ((r0.1.2.1 == r1.1.2.1) && ((r0.1.2.2 == r1.1.2.2) && true))) == true) then
    bif ((r0.2.1 == r1.2.1) == true) then
      bif ((r0.2.2 == r1.2.2) == true) then
        (link_Span N a2 a0.1).bind fun r2 =>
        (leatref37_Span N a2 a0.1).bind fun r3 =>
        bif ((r2 == r3) == true) then
          (link_Room N a0.1 a1).bind fun r4 =>
          (leatref37_Room N a0.1 a1).bind fun r5 =>
          bif ((r4 == r5) == true) then
            (link_Idle N a0 a1).bind fun r6 =>
            (leatref37_Within N a0).bind fun r7 =>
            bif ((r6 == (decide (r7.2.1 ≤ (imn (imx a1 0) 1125899906842624)))) == true) then
              (leatlaw37_works N).bind fun r8 =>
              some r8
            else
              some false
          else
            some false
        else
          some false
      else
        some false
    else
      some false
  else
    some false

def leatlaw37_LinkRuns_L5 (N : Nat) (F : ((Int × (Int × Unit)) × ((List (Int × Int)) × ((Int × (Int × (Int × Unit))) × ((List Int) × ((List Int) × ((List Int) × Unit)))))) → Option (((Bool × Unit) × Unit) ⊕ (Unit × ((Int × (Int × (Int × Unit))) × ((List Int) × ((List Int) × ((List Int) × Unit))))))) (x : ((Int × (Int × Unit)) × ((List (Int × Int)) × ((Int × (Int × (Int × Unit))) × ((List Int) × ((List Int) × ((List Int) × Unit))))))) : Option (((Bool × Unit) × Unit) ⊕ (Unit × ((Int × (Int × (Int × Unit))) × ((List Int) × ((List Int) × ((List Int) × Unit)))))) :=
  bif ((decide (x.1.2.1 < (((x.2.1).length : Nat) : Int))) == true) then
    bif (decide (x.1.2.1 < 40)) then
      bif ((decide ((0 : Int) ≤ x.1.2.1)) && (decide (x.1.2.1 < (((x.2.1).length : Nat) : Int)))) then
        bif ((decide ((0 : Int) ≤ x.1.2.1)) && (decide (x.1.2.1 < (((x.2.1).length : Nat) : Int)))) then
          (link_Take N (x.2.2.1.1, (x.2.2.1.2.1, x.2.2.1.2.2.1)) (IntKind.wrap .i64 (x.1.1 + (IntKind.wrap .i64 (x.2.1.getD (x.1.2.1).toNat (0, 0)).1))) (IntKind.wrap .i64 ((IntKind.wrap .i64 (x.2.1.getD (x.1.2.1).toNat (0, 0)).2) + 1))).bind fun r0 =>
          bif ((decide (r0.2.1 < (IntKind.wrap .i64 (x.1.1 + (IntKind.wrap .i64 (x.2.1.getD (x.1.2.1).toNat (0, 0)).1))))) == false) then
            bif ((decide (r0.2.1 < x.2.2.1.2.1)) == false) then
              bif ((! (r0.2.1 == (imx (IntKind.wrap .i64 (x.1.1 + (IntKind.wrap .i64 (x.2.1.getD (x.1.2.1).toNat (0, 0)).1))) x.2.2.1.2.1))) == false) then
                bif ((decide (r0.2.2 ≤ r0.2.1)) == false) then
                  bif ((! (r0.1.2.1 == r0.2.2)) == false) then
                    bif ((! ((IntKind.wrap .i64 (r0.1.2.2 - x.2.2.1.2.2.1)) == (IntKind.wrap .i64 (r0.2.2 - r0.2.1)))) == false) then
                      (link_Idle N r0.1 (IntKind.wrap .i64 (r0.2.2 - 1))).bind fun r1 =>
                      bif r1 then
                        some (.inl ((false, ()), ()))
                      else
                        bif (decide ((((x.2.2.2.1).length + (([r0.2.1] : List Int)).length) * 8) ≤ 140737488355328)) then
                          bif (decide ((((x.2.2.2.2.1).length + (([r0.2.2] : List Int)).length) * 8) ≤ 140737488355328)) then
                            bif (decide ((((x.2.2.2.2.2.1).length + (([(IntKind.wrap .i64 ((IntKind.wrap .i64 (x.2.1.getD (x.1.2.1).toNat (0, 0)).2) + 1))] : List Int)).length) * 8) ≤ 140737488355328)) then
                              F (((IntKind.wrap .i64 (x.1.1 + (IntKind.wrap .i64 (x.2.1.getD (x.1.2.1).toNat (0, 0)).1))), ((IntKind.wrap .i64 (x.1.2.1 + 1)), ())), (x.2.1, ((r0.1.1, (r0.1.2.1, (r0.1.2.2, ()))), ((x.2.2.2.1 ++ ([r0.2.1] : List Int)), ((x.2.2.2.2.1 ++ ([r0.2.2] : List Int)), ((x.2.2.2.2.2.1 ++ ([(IntKind.wrap .i64 ((IntKind.wrap .i64 (x.2.1.getD (x.1.2.1).toNat (0, 0)).2) + 1))] : List Int)), ()))))))
                            else
                              none
                          else
                            none
                        else
                          none
                    else
                      some (.inl ((false, ()), ()))
                  else
                    some (.inl ((false, ()), ()))
                else
                  some (.inl ((false, ()), ()))
              else
                some (.inl ((false, ()), ()))
            else
              some (.inl ((false, ()), ()))
          else
            some (.inl ((false, ()), ()))
        else
          none
      else
        none
    else
      some (.inr ((), ((x.2.2.1.1, (x.2.2.1.2.1, (x.2.2.1.2.2.1, ()))), (x.2.2.2.1, (x.2.2.2.2.1, (x.2.2.2.2.2.1, ()))))))
  else
    some (.inr ((), ((x.2.2.1.1, (x.2.2.1.2.1, (x.2.2.1.2.2.1, ()))), (x.2.2.2.1, (x.2.2.2.2.1, (x.2.2.2.2.2.1, ()))))))

def leatlaw37_LinkRuns_L20 (N : Nat) (F : ((Int × (Int × (Int × (Int × (Int × Unit))))) × ((Int × (Int × (Int × Unit))) × ((List Int) × ((List Int) × ((List Int) × Unit))))) → Option (((Bool × Unit) × Unit) ⊕ ((Int × (Int × Unit)) × ((Int × (Int × (Int × Unit))) × ((List Int) × ((List Int) × ((List Int) × Unit))))))) (x : ((Int × (Int × (Int × (Int × (Int × Unit))))) × ((Int × (Int × (Int × Unit))) × ((List Int) × ((List Int) × ((List Int) × Unit)))))) : Option (((Bool × Unit) × Unit) ⊕ ((Int × (Int × Unit)) × ((Int × (Int × (Int × Unit))) × ((List Int) × ((List Int) × ((List Int) × Unit)))))) :=
  bif (decide (x.1.2.2.1 < (((x.2.2.1).length : Nat) : Int))) then
    bif ((decide ((0 : Int) ≤ x.1.2.2.1)) && (decide (x.1.2.2.1 < (((x.2.2.2.2.1).length : Nat) : Int)))) then
      bif ((decide ((0 : Int) ≤ x.1.2.2.1)) && (decide (x.1.2.2.1 < (((x.2.2.2.1).length : Nat) : Int)))) then
        bif ((decide ((0 : Int) ≤ x.1.1)) && (decide (x.1.1 < (((x.2.2.1).length : Nat) : Int)))) then
          (link_Room N x.2.1.1 (IntKind.wrap .i64 ((x.2.2.2.1.getD (x.1.2.2.1).toNat 0) - (x.2.2.1.getD (x.1.1).toNat 0)))).bind fun r0 =>
          bif (decide (r0 < (IntKind.wrap .i64 (x.1.2.1 + (x.2.2.2.2.1.getD (x.1.2.2.1).toNat 0))))) then
            some (.inl ((false, ()), ()))
          else
            F ((x.1.1, ((IntKind.wrap .i64 (x.1.2.1 + (x.2.2.2.2.1.getD (x.1.2.2.1).toNat 0))), ((IntKind.wrap .i64 (x.1.2.2.1 + 1)), (x.1.2.2.2.1, (x.1.2.2.2.2.1, ()))))), ((x.2.1.1, (x.2.1.2.1, (x.2.1.2.2.1, ()))), (x.2.2.1, (x.2.2.2.1, (x.2.2.2.2.1, ())))))
        else
          none
      else
        none
    else
      none
  else
    some (.inr ((x.1.2.2.2.1, (x.1.2.2.2.2.1, ())), ((x.2.1.1, (x.2.1.2.1, (x.2.1.2.2.1, ()))), (x.2.2.1, (x.2.2.2.1, (x.2.2.2.2.1, ()))))))

def leatlaw37_LinkRuns_L16 (N : Nat) (F : ((Int × (Int × Unit)) × ((Int × (Int × (Int × Unit))) × ((List Int) × ((List Int) × ((List Int) × Unit))))) → Option (((Bool × Unit) × Unit) ⊕ (Unit × Unit))) (x : ((Int × (Int × Unit)) × ((Int × (Int × (Int × Unit))) × ((List Int) × ((List Int) × ((List Int) × Unit)))))) : Option (((Bool × Unit) × Unit) ⊕ (Unit × Unit)) :=
  bif (decide (x.1.2.1 < x.1.1)) then
    (iter (leatlaw37_LinkRuns_L20 N) N ((x.1.2.1, (0, (x.1.2.1, (x.1.1, (x.1.2.1, ()))))), ((x.2.1.1, (x.2.1.2.1, (x.2.1.2.2.1, ()))), (x.2.2.1, (x.2.2.2.1, (x.2.2.2.2.1, ())))))).bind fun r0 =>
    match r0 with
    | .inl r1 =>
      some (.inl ((r1.1.1, ()), ()))
    | .inr r2 =>
      F ((r2.1.1, ((IntKind.wrap .i64 (r2.1.2.1 + 1)), ())), ((r2.2.1.1, (r2.2.1.2.1, (r2.2.1.2.2.1, ()))), (r2.2.2.1, (r2.2.2.2.1, (r2.2.2.2.2.1, ())))))
  else
    some (.inr ((), ()))

def leatlaw37_LinkRuns (N : Nat) (a0 : Int) (a1 : (List (Int × Int))) : Option Bool :=
  (iter (leatlaw37_LinkRuns_L5 N) N ((0, (0, ())), (a1, (((IntKind.wrap .i64 ((IntKind.wrap .i64 a0) + 1)), (0, (0, ()))), (([] : List Int), (([] : List Int), (([] : List Int), ()))))))).bind fun r0 =>
  match r0 with
  | .inl r1 =>
    some r1.1.1
  | .inr r2 =>
    (iter (leatlaw37_LinkRuns_L16 N) N (((((r2.2.2.1).length : Nat) : Int), (0, ())), ((r2.2.1.1, (r2.2.1.2.1, (r2.2.1.2.2.1, ()))), (r2.2.2.1, (r2.2.2.2.1, (r2.2.2.2.2.1, ())))))).bind fun r3 =>
    match r3 with
    | .inl r4 =>
      some r4.1.1
    | .inr _ =>
      (leatlaw37_works N).bind fun r6 =>
      some r6
end Go.Proofs.Ytakjmminaolfnaa.W
