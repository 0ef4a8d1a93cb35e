/- The functions of the seat, as the evaluator tells them: the texts alone. Printed by genW.py. -/
import Derived.Test.YtgjmfljogaanfaaGreatEvT
namespace Go.Proofs.YtgjmfljogaanfaaGreat.W
open Go.Ev Go.RowKit
abbrev Ti5 := Int × (Int × (Int × (Int × Int)))
abbrev Li5 : List SK := [.int .i64, .int .i64, .int .i64, .int .i64, .int .i64]
abbrev Ti6 := Int × (Int × (Int × (Int × (Int × Int))))
abbrev Li6 : List SK := [.int .i64, .int .i64, .int .i64, .int .i64, .int .i64, .int .i64]
abbrev Ti7 := Int × (Int × (Int × (Int × (Int × (Int × Int)))))
abbrev Li7 : List SK := [.int .i64, .int .i64, .int .i64, .int .i64, .int .i64, .int .i64, .int .i64]
abbrev Ti8 := Int × (Int × (Int × (Int × (Int × (Int × (Int × Int))))))
abbrev Li8 : List SK := [.int .i64, .int .i64, .int .i64, .int .i64, .int .i64, .int .i64, .int .i64, .int .i64]
abbrev Ti9 := Int × (Int × (Int × (Int × (Int × (Int × (Int × (Int × Int)))))))
abbrev Li9 : List SK := [.int .i64, .int .i64, .int .i64, .int .i64, .int .i64, .int .i64, .int .i64, .int .i64, .int .i64]
abbrev Ti10 := Int × (Int × (Int × (Int × (Int × (Int × (Int × (Int × (Int × Int))))))))
abbrev Li10 : List SK := [.int .i64, .int .i64, .int .i64, .int .i64, .int .i64, .int .i64, .int .i64, .int .i64, .int .i64, .int .i64]
def cmp_isNaN_int64 (_N : Nat) (a0 : Int) : Option Bool :=
  some (!(a0 == a0))
def cmp_Compare_int64 (N : Nat) (a0 : Int) (a1 : Int) : Option Int :=
  (cmp_isNaN_int64 N a0).bind fun r0 =>
  (cmp_isNaN_int64 N a1).bind fun r1 =>
  bif r0 then
    bif r1 then
      some 0
    else some (-1)
  else bif r1 then
    some 1
  else bif (decide (a0 < a1)) then
    some (-1)
  else bif (decide (a1 < a0)) then
    some 1
  else some 0

def chain_coming_1 (N : Nat) (a0 : Ti5) (a1 : Ti5) : Option Int :=
  (cmp_Compare_int64 N a0.2.2.2.2 a1.2.2.2.2).bind fun r0 =>
  some r0

def leatlaw50_few_L3 (_N : Nat) (F : ((Int × Unit) × ((List (Ti10 × (List Int))) × ((List Ti5) × ((List (Ti10 × (List Int))) × Unit)))) → Option (Unit × ((List Ti5) × ((List (Ti10 × (List Int))) × Unit)))) (x : ((Int × Unit) × ((List (Ti10 × (List Int))) × ((List Ti5) × ((List (Ti10 × (List Int))) × Unit))))) : Option (Unit × ((List Ti5) × ((List (Ti10 × (List Int))) × Unit))) :=
  bif ((decide (x.1.1 < (((x.2.1).length : Nat) : Int))) == true) then
    bif (decide (x.1.1 < 10)) then
      bif ((decide ((0 : Int) ≤ x.1.1)) && (decide (x.1.1 < (((x.2.1).length : Nat) : Int)))) then
        bif ((decide ((0 : Int) ≤ (imn ((((x.2.1.getD (x.1.1 : Int).toNat ((0, (0, (0, (0, (0, (0, (0, (0, (0, 0))))))))), ([] : List Int))).2).length : Nat) : Int) 50))) && (decide ((imn ((((x.2.1.getD (x.1.1 : Int).toNat ((0, (0, (0, (0, (0, (0, (0, (0, (0, 0))))))))), ([] : List Int))).2).length : Nat) : Int) 50) ≤ ((((x.2.1.getD (x.1.1 : Int).toNat ((0, (0, (0, (0, (0, (0, (0, (0, (0, 0))))))))), ([] : List Int))).2).length : Nat) : Int)))) then
          bif (decide ((((x.2.2.2.1).length + 1) * 104) ≤ 140737488355328)) then
            F (((IntKind.wrap .i64 (x.1.1 + 1)), ()), (x.2.1, (x.2.2.1, ((x.2.2.2.1 ++ ([((x.2.1.getD (x.1.1 : Int).toNat ((0, (0, (0, (0, (0, (0, (0, (0, (0, 0))))))))), ([] : List Int))).1, (cutL (x.2.1.getD (x.1.1 : Int).toNat ((0, (0, (0, (0, (0, (0, (0, (0, (0, 0))))))))), ([] : List Int))).2 0 (imn ((((x.2.1.getD (x.1.1 : Int).toNat ((0, (0, (0, (0, (0, (0, (0, (0, (0, 0))))))))), ([] : List Int))).2).length : Nat) : Int) 50)))] : List (Ti10 × (List Int)))), ()))))
          else
            none
        else
          none
      else
        none
    else
      some ((), (x.2.2.1, (x.2.2.2.1, ())))
  else
    some ((), (x.2.2.1, (x.2.2.2.1, ())))

def leatlaw50_few (N : Nat) (x : (Unit × ((List (Ti10 × (List Int))) × ((List Ti5) × Unit)))) : Option (Unit × ((List (Ti10 × (List Int))) × ((List Ti5) × Unit))) :=
  (iter (leatlaw50_few_L3 N) N ((0, ()), (x.2.1, (x.2.2.1, (([] : List (Ti10 × (List Int))), ()))))).bind fun r0 =>
  bif ((decide ((0 : Int) ≤ (imn (((r0.2.1).length : Nat) : Int) 60))) && (decide ((imn (((r0.2.1).length : Nat) : Int) 60) ≤ (((r0.2.1).length : Nat) : Int)))) then
    some ((), (r0.2.2.1, ((cutL r0.2.1 0 (imn (((r0.2.1).length : Nat) : Int) 60)), ())))
  else
    none
def sat_Clamp (_N : Nat) (a0 : Int) (a1 : Int) (a2 : Int) : Option Int :=
  some (if (if a2 < a0 then a2 else a0) > a1 then (if a2 < a0 then a2 else a0) else a1)

def dual_Limit (N : Nat) (a0 : Ti8) : Option Ti8 :=
  (sat_Clamp N a0.1 1 1073741824).bind fun r0 =>
  (sat_Clamp N a0.2.1 0 67108864).bind fun r1 =>
  (sat_Clamp N a0.2.2.1 1 1125899906842624).bind fun r2 =>
  (sat_Clamp N a0.2.2.2.1 0 17179869184).bind fun r3 =>
  (sat_Clamp N a0.2.2.2.2.1 0 17179869184).bind fun r4 =>
  (sat_Clamp N a0.2.2.2.2.2.1 0 65536).bind fun r5 =>
  (sat_Clamp N a0.2.2.2.2.2.2.1 0 67108864).bind fun r6 =>
  (sat_Clamp N a0.2.2.2.2.2.2.2 0 67108864).bind fun r7 =>
  some (r0, (r1, (r2, (r3, (r4, (r5, (r6, r7)))))))

def chain_Limit (N : Nat) (x : (((Ti10 × Unit) × Unit) × ((List Int) × Unit))) : Option (((Ti10 × Unit) × Unit) × ((List Int) × Unit)) :=
  (sat_Clamp N x.1.1.1.1 100000 1099511627776).bind fun r0 =>
  (sat_Clamp N x.1.1.1.2.1 0 16777216).bind fun r1 =>
  (dual_Limit N x.1.1.1.2.2).bind fun r2 =>
  some ((((r0, (r1, (r2.1, (r2.2.1, ((imx r2.2.2.1 1000), r2.2.2.2))))), ()), ()), (x.2.1, ()))
def slices_Clone_uint32_uint32 (_N : Nat) (a0 : (List Int)) : Option ((List Int)) := if a0.length * 4 ≤ 140737488355328 then some a0 else none

def ring_New_api_Packet (_N : Nat) (x : ((Int × Unit) × Unit)) : Option (Unit × ((Int × (Int × (Int × Unit))) × ((List Ti5) × Unit))) :=
  some ((), ((0, (0, ((imx 0 (imn x.1.1 65536)), ()))), (([] : List Ti5), ())))

def dual_New (N : Nat) (x : ((Ti8 × Unit) × ((List Int) × Unit))) : Option (Unit × ((Ti8 × (Ti9 × (Ti9 × (Ti9 × ((Int × Int) × (Int × Unit)))))) × ((Int × (Int × (Int × Unit))) × ((Int × (Int × (Int × Unit))) × ((Int × Unit) × (Unit × ((Int × Unit) × ((List Ti5) × ((List Ti5) × ((List Int) × Unit)))))))))) :=
  (dual_Limit N x.1.1).bind fun r0 =>
  (slices_Clone_uint32_uint32 N x.2.1).bind fun r1 =>
  (ring_New_api_Packet N ((65536, ()), ())).bind fun r2 =>
  (ring_New_api_Packet N ((65536, ()), ())).bind fun r3 =>
  some ((), ((r0, ((0, (0, (0, (0, (0, (0, (0, (0, 0)))))))), ((0, (0, (0, (0, (0, (0, (0, (0, 0)))))))), ((0, (0, (0, (0, (0, (0, (0, (0, 0)))))))), ((0, 0), (0, ())))))), ((r2.2.1.1, (r2.2.1.2.1, (r2.2.1.2.2.1, ()))), ((r3.2.1.1, (r3.2.1.2.1, (r3.2.1.2.2.1, ()))), ((0, ()), ((), ((0, ()), (r2.2.2.1, (r3.2.2.1, (r1, ()))))))))))

def chain_made (N : Nat) (x : (((Ti10 × Unit) × Unit) × ((List Int) × Unit))) : Option (Unit × ((Ti10 × ((Int × (Int × Int)) × (Int × Unit))) × ((Ti8 × (Ti9 × (Ti9 × (Ti9 × ((Int × Int) × (Int × Unit)))))) × ((Int × (Int × (Int × Unit))) × ((Int × (Int × (Int × Unit))) × ((Int × Unit) × (Unit × ((Int × Unit) × ((List Ti5) × ((List Ti5) × ((List Int) × ((List Ti5) × ((List Ti5) × Unit))))))))))))) :=
  (chain_Limit N (((x.1.1.1, ()), ()), (x.2.1, ()))).bind fun r0 =>
  (dual_New N ((r0.1.1.1.2.2, ()), (r0.2.1, ()))).bind fun r1 =>
  some ((), ((r0.1.1.1, ((r0.1.1.1.1, (0, 0)), (r0.1.1.1.2.2.2.2.1, ()))), ((r1.2.1.1, (r1.2.1.2.1, (r1.2.1.2.2.1, (r1.2.1.2.2.2.1, (r1.2.1.2.2.2.2.1, (r1.2.1.2.2.2.2.2.1, ())))))), ((r1.2.2.1.1, (r1.2.2.1.2.1, (r1.2.2.1.2.2.1, ()))), ((r1.2.2.2.1.1, (r1.2.2.2.1.2.1, (r1.2.2.2.1.2.2.1, ()))), ((r1.2.2.2.2.1.1, ()), ((), ((r1.2.2.2.2.2.2.1.1, ()), (r1.2.2.2.2.2.2.2.1, (r1.2.2.2.2.2.2.2.2.1, (r1.2.2.2.2.2.2.2.2.2.1, (([] : List Ti5), (([] : List Ti5), ())))))))))))))
def slices_Clone_api_Packet_api_Packet (_N : Nat) (a0 : (List Ti5)) : Option ((List Ti5)) := if a0.length * 40 ≤ 140737488355328 then some a0 else none

def slices_insertionSortCmpFunc_api_Packet_L4 (N : Nat) (F : ((Int × (Int × (Int × (Int × Unit)))) × ((List Ti5) × Unit)) → Option ((Int × (Int × (Int × Unit))) × ((List Ti5) × Unit))) (x : ((Int × (Int × (Int × (Int × Unit)))) × ((List Ti5) × Unit))) : Option ((Int × (Int × (Int × Unit))) × ((List Ti5) × Unit)) :=
  bif ((decide (x.1.1 < x.1.2.2.2.1)) == true) then
    bif ((decide ((0 : Int) ≤ x.1.2.2.2.1)) && (decide (x.1.2.2.2.1 < (((x.2.1).length : Nat) : Int)))) then
      bif ((decide ((0 : Int) ≤ (IntKind.wrap .i64 (x.1.2.2.2.1 - 1)))) && (decide ((IntKind.wrap .i64 (x.1.2.2.2.1 - 1)) < (((x.2.1).length : Nat) : Int)))) then
        (chain_coming_1 N (x.2.1.getD (x.1.2.2.2.1 : Int).toNat (0, (0, (0, (0, 0))))) (x.2.1.getD ((IntKind.wrap .i64 (x.1.2.2.2.1 - 1)) : Int).toNat (0, (0, (0, (0, 0)))))).bind fun r0 =>
        bif (decide (r0 < 0)) then
          bif ((decide ((0 : Int) ≤ (IntKind.wrap .i64 (x.1.2.2.2.1 - 1)))) && (decide ((IntKind.wrap .i64 (x.1.2.2.2.1 - 1)) < (((x.2.1).length : Nat) : Int)))) then
            bif ((decide ((0 : Int) ≤ x.1.2.2.2.1)) && (decide (x.1.2.2.2.1 < (((x.2.1).length : Nat) : Int)))) then
              bif ((decide ((0 : Int) ≤ x.1.2.2.2.1)) && (decide (x.1.2.2.2.1 < (((x.2.1).length : Nat) : Int)))) then
                bif ((decide ((0 : Int) ≤ (IntKind.wrap .i64 (x.1.2.2.2.1 - 1)))) && (decide ((IntKind.wrap .i64 (x.1.2.2.2.1 - 1)) < ((((x.2.1.set (x.1.2.2.2.1 : Int).toNat (x.2.1.getD ((IntKind.wrap .i64 (x.1.2.2.2.1 - 1)) : Int).toNat (0, (0, (0, (0, 0))))))).length : Nat) : Int)))) then
                  F ((x.1.1, (x.1.2.1, (x.1.2.2.1, ((IntKind.wrap .i64 (x.1.2.2.2.1 - 1)), ())))), (((x.2.1.set (x.1.2.2.2.1 : Int).toNat (x.2.1.getD ((IntKind.wrap .i64 (x.1.2.2.2.1 - 1)) : Int).toNat (0, (0, (0, (0, 0)))))).set ((IntKind.wrap .i64 (x.1.2.2.2.1 - 1)) : Int).toNat (x.2.1.getD (x.1.2.2.2.1 : Int).toNat (0, (0, (0, (0, 0)))))), ()))
                else
                  none
              else
                none
            else
              none
          else
            none
        else
          some ((x.1.1, (x.1.2.1, (x.1.2.2.1, ()))), (x.2.1, ()))
      else
        none
    else
      none
  else
    some ((x.1.1, (x.1.2.1, (x.1.2.2.1, ()))), (x.2.1, ()))

def slices_insertionSortCmpFunc_api_Packet_L1 (N : Nat) (F : ((Int × (Int × (Int × Unit))) × ((List Ti5) × Unit)) → Option (Unit × ((List Ti5) × Unit))) (x : ((Int × (Int × (Int × Unit))) × ((List Ti5) × Unit))) : Option (Unit × ((List Ti5) × Unit)) :=
  bif (decide (x.1.2.2.1 < x.1.2.1)) then
    (iter (slices_insertionSortCmpFunc_api_Packet_L4 N) N ((x.1.1, (x.1.2.1, (x.1.2.2.1, (x.1.2.2.1, ())))), (x.2.1, ()))).bind fun r0 =>
    F ((r0.1.1, (r0.1.2.1, ((IntKind.wrap .i64 (r0.1.2.2.1 + 1)), ()))), (r0.2.1, ()))
  else
    some ((), (x.2.1, ()))

def slices_insertionSortCmpFunc_api_Packet (N : Nat) (x : ((Int × (Int × Unit)) × ((List Ti5) × Unit))) : Option (Unit × ((List Ti5) × Unit)) :=
  (iter (slices_insertionSortCmpFunc_api_Packet_L1 N) N ((x.1.1, (x.1.2.1, ((IntKind.wrap .i64 (x.1.1 + 1)), ()))), (x.2.1, ()))).bind fun r0 =>
  some ((), (r0.2.1, ()))

def slices_swapRangeCmpFunc_api_Packet_L1 (_N : Nat) (F : ((Int × (Int × (Int × (Int × Unit)))) × ((List Ti5) × Unit)) → Option (Unit × ((List Ti5) × Unit))) (x : ((Int × (Int × (Int × (Int × Unit)))) × ((List Ti5) × Unit))) : Option (Unit × ((List Ti5) × Unit)) :=
  bif (decide (x.1.2.2.2.1 < x.1.2.2.1)) then
    bif ((decide ((0 : Int) ≤ (IntKind.wrap .i64 (x.1.2.1 + x.1.2.2.2.1)))) && (decide ((IntKind.wrap .i64 (x.1.2.1 + x.1.2.2.2.1)) < (((x.2.1).length : Nat) : Int)))) then
      bif ((decide ((0 : Int) ≤ (IntKind.wrap .i64 (x.1.1 + x.1.2.2.2.1)))) && (decide ((IntKind.wrap .i64 (x.1.1 + x.1.2.2.2.1)) < (((x.2.1).length : Nat) : Int)))) then
        bif ((decide ((0 : Int) ≤ (IntKind.wrap .i64 (x.1.1 + x.1.2.2.2.1)))) && (decide ((IntKind.wrap .i64 (x.1.1 + x.1.2.2.2.1)) < (((x.2.1).length : Nat) : Int)))) then
          bif ((decide ((0 : Int) ≤ (IntKind.wrap .i64 (x.1.2.1 + x.1.2.2.2.1)))) && (decide ((IntKind.wrap .i64 (x.1.2.1 + x.1.2.2.2.1)) < ((((x.2.1.set ((IntKind.wrap .i64 (x.1.1 + x.1.2.2.2.1)) : Int).toNat (x.2.1.getD ((IntKind.wrap .i64 (x.1.2.1 + x.1.2.2.2.1)) : Int).toNat (0, (0, (0, (0, 0))))))).length : Nat) : Int)))) then
            F ((x.1.1, (x.1.2.1, (x.1.2.2.1, ((IntKind.wrap .i64 (x.1.2.2.2.1 + 1)), ())))), (((x.2.1.set ((IntKind.wrap .i64 (x.1.1 + x.1.2.2.2.1)) : Int).toNat (x.2.1.getD ((IntKind.wrap .i64 (x.1.2.1 + x.1.2.2.2.1)) : Int).toNat (0, (0, (0, (0, 0)))))).set ((IntKind.wrap .i64 (x.1.2.1 + x.1.2.2.2.1)) : Int).toNat (x.2.1.getD ((IntKind.wrap .i64 (x.1.1 + x.1.2.2.2.1)) : Int).toNat (0, (0, (0, (0, 0)))))), ()))
          else
            none
        else
          none
      else
        none
    else
      none
  else
    some ((), (x.2.1, ()))

def slices_swapRangeCmpFunc_api_Packet (N : Nat) (x : ((Int × (Int × (Int × Unit))) × ((List Ti5) × Unit))) : Option (Unit × ((List Ti5) × Unit)) :=
  (iter (slices_swapRangeCmpFunc_api_Packet_L1 N) N ((x.1.1, (x.1.2.1, (x.1.2.2.1, (0, ())))), (x.2.1, ()))).bind fun r0 =>
  some ((), (r0.2.1, ()))

def slices_rotateCmpFunc_api_Packet_L2 (N : Nat) (F : ((Int × (Int × (Int × Unit))) × ((List Ti5) × Unit)) → Option ((Int × (Int × Unit)) × ((List Ti5) × Unit))) (x : ((Int × (Int × (Int × Unit))) × ((List Ti5) × Unit))) : Option ((Int × (Int × Unit)) × ((List Ti5) × Unit)) :=
  bif (! (x.1.2.1 == x.1.2.2.1)) then
    bif (decide (x.1.2.2.1 < x.1.2.1)) then
      (slices_swapRangeCmpFunc_api_Packet N (((IntKind.wrap .i64 (x.1.1 - x.1.2.1)), (x.1.1, (x.1.2.2.1, ()))), (x.2.1, ()))).bind fun r0 =>
      F ((x.1.1, ((IntKind.wrap .i64 (x.1.2.1 - x.1.2.2.1)), (x.1.2.2.1, ()))), (r0.2.1, ()))
    else
      (slices_swapRangeCmpFunc_api_Packet N (((IntKind.wrap .i64 (x.1.1 - x.1.2.1)), ((IntKind.wrap .i64 ((IntKind.wrap .i64 (x.1.1 + x.1.2.2.1)) - x.1.2.1)), (x.1.2.1, ()))), (x.2.1, ()))).bind fun r1 =>
      F ((x.1.1, (x.1.2.1, ((IntKind.wrap .i64 (x.1.2.2.1 - x.1.2.1)), ()))), (r1.2.1, ()))
  else
    some ((x.1.1, (x.1.2.1, ())), (x.2.1, ()))

def slices_rotateCmpFunc_api_Packet (N : Nat) (x : ((Int × (Int × (Int × Unit))) × ((List Ti5) × Unit))) : Option (Unit × ((List Ti5) × Unit)) :=
  (iter (slices_rotateCmpFunc_api_Packet_L2 N) N ((x.1.2.1, ((IntKind.wrap .i64 (x.1.2.1 - x.1.1)), ((IntKind.wrap .i64 (x.1.2.2.1 - x.1.2.1)), ()))), (x.2.1, ()))).bind fun r0 =>
  (slices_swapRangeCmpFunc_api_Packet N (((IntKind.wrap .i64 (r0.1.1 - r0.1.2.1)), (r0.1.1, (r0.1.2.1, ()))), (r0.2.1, ()))).bind fun r1 =>
  some ((), (r1.2.1, ()))

def slices_symMergeCmpFunc_api_Packet_L3 (N : Nat) (F : ((Int × (Int × (Int × Unit))) × ((List Ti5) × Unit)) → Option ((Int × (Int × Unit)) × ((List Ti5) × Unit))) (x : ((Int × (Int × (Int × Unit))) × ((List Ti5) × Unit))) : Option ((Int × (Int × Unit)) × ((List Ti5) × Unit)) :=
  bif (decide (x.1.2.1 < x.1.2.2.1)) then
    bif ((decide ((0 : Int) ≤ (IntKind.wrap .i64 (Int.fdiv (IntKind.wrap .u64 (IntKind.wrap .i64 (x.1.2.1 + x.1.2.2.1))) 2)))) && (decide ((IntKind.wrap .i64 (Int.fdiv (IntKind.wrap .u64 (IntKind.wrap .i64 (x.1.2.1 + x.1.2.2.1))) 2)) < (((x.2.1).length : Nat) : Int)))) then
      bif ((decide ((0 : Int) ≤ x.1.1)) && (decide (x.1.1 < (((x.2.1).length : Nat) : Int)))) then
        (chain_coming_1 N (x.2.1.getD ((IntKind.wrap .i64 (Int.fdiv (IntKind.wrap .u64 (IntKind.wrap .i64 (x.1.2.1 + x.1.2.2.1))) 2)) : Int).toNat (0, (0, (0, (0, 0))))) (x.2.1.getD (x.1.1 : Int).toNat (0, (0, (0, (0, 0)))))).bind fun r0 =>
        bif (decide (r0 < 0)) then
          F ((x.1.1, ((IntKind.wrap .i64 ((IntKind.wrap .i64 (Int.fdiv (IntKind.wrap .u64 (IntKind.wrap .i64 (x.1.2.1 + x.1.2.2.1))) 2)) + 1)), (x.1.2.2.1, ()))), (x.2.1, ()))
        else
          F ((x.1.1, (x.1.2.1, ((IntKind.wrap .i64 (Int.fdiv (IntKind.wrap .u64 (IntKind.wrap .i64 (x.1.2.1 + x.1.2.2.1))) 2)), ()))), (x.2.1, ()))
      else
        none
    else
      none
  else
    some ((x.1.1, (x.1.2.1, ())), (x.2.1, ()))

def slices_symMergeCmpFunc_api_Packet_L9 (_N : Nat) (F : ((Int × (Int × Unit)) × ((List Ti5) × Unit)) → Option (Unit × ((List Ti5) × Unit))) (x : ((Int × (Int × Unit)) × ((List Ti5) × Unit))) : Option (Unit × ((List Ti5) × Unit)) :=
  bif (decide (x.1.2.1 < (IntKind.wrap .i64 (x.1.1 - 1)))) then
    bif ((decide ((0 : Int) ≤ (IntKind.wrap .i64 (x.1.2.1 + 1)))) && (decide ((IntKind.wrap .i64 (x.1.2.1 + 1)) < (((x.2.1).length : Nat) : Int)))) then
      bif ((decide ((0 : Int) ≤ x.1.2.1)) && (decide (x.1.2.1 < (((x.2.1).length : Nat) : Int)))) then
        bif ((decide ((0 : Int) ≤ x.1.2.1)) && (decide (x.1.2.1 < (((x.2.1).length : Nat) : Int)))) then
          bif ((decide ((0 : Int) ≤ (IntKind.wrap .i64 (x.1.2.1 + 1)))) && (decide ((IntKind.wrap .i64 (x.1.2.1 + 1)) < ((((x.2.1.set (x.1.2.1 : Int).toNat (x.2.1.getD ((IntKind.wrap .i64 (x.1.2.1 + 1)) : Int).toNat (0, (0, (0, (0, 0))))))).length : Nat) : Int)))) then
            F ((x.1.1, ((IntKind.wrap .i64 (x.1.2.1 + 1)), ())), (((x.2.1.set (x.1.2.1 : Int).toNat (x.2.1.getD ((IntKind.wrap .i64 (x.1.2.1 + 1)) : Int).toNat (0, (0, (0, (0, 0)))))).set ((IntKind.wrap .i64 (x.1.2.1 + 1)) : Int).toNat (x.2.1.getD (x.1.2.1 : Int).toNat (0, (0, (0, (0, 0)))))), ()))
          else
            none
        else
          none
      else
        none
    else
      none
  else
    some ((), (x.2.1, ()))

def slices_symMergeCmpFunc_api_Packet_L15 (N : Nat) (F : ((Int × (Int × (Int × Unit))) × ((List Ti5) × Unit)) → Option ((Int × (Int × Unit)) × ((List Ti5) × Unit))) (x : ((Int × (Int × (Int × Unit))) × ((List Ti5) × Unit))) : Option ((Int × (Int × Unit)) × ((List Ti5) × Unit)) :=
  bif (decide (x.1.2.1 < x.1.2.2.1)) then
    bif ((decide ((0 : Int) ≤ x.1.1)) && (decide (x.1.1 < (((x.2.1).length : Nat) : Int)))) then
      bif ((decide ((0 : Int) ≤ (IntKind.wrap .i64 (Int.fdiv (IntKind.wrap .u64 (IntKind.wrap .i64 (x.1.2.1 + x.1.2.2.1))) 2)))) && (decide ((IntKind.wrap .i64 (Int.fdiv (IntKind.wrap .u64 (IntKind.wrap .i64 (x.1.2.1 + x.1.2.2.1))) 2)) < (((x.2.1).length : Nat) : Int)))) then
        (chain_coming_1 N (x.2.1.getD (x.1.1 : Int).toNat (0, (0, (0, (0, 0))))) (x.2.1.getD ((IntKind.wrap .i64 (Int.fdiv (IntKind.wrap .u64 (IntKind.wrap .i64 (x.1.2.1 + x.1.2.2.1))) 2)) : Int).toNat (0, (0, (0, (0, 0)))))).bind fun r0 =>
        bif (! (decide (r0 < 0))) then
          F ((x.1.1, ((IntKind.wrap .i64 ((IntKind.wrap .i64 (Int.fdiv (IntKind.wrap .u64 (IntKind.wrap .i64 (x.1.2.1 + x.1.2.2.1))) 2)) + 1)), (x.1.2.2.1, ()))), (x.2.1, ()))
        else
          F ((x.1.1, (x.1.2.1, ((IntKind.wrap .i64 (Int.fdiv (IntKind.wrap .u64 (IntKind.wrap .i64 (x.1.2.1 + x.1.2.2.1))) 2)), ()))), (x.2.1, ()))
      else
        none
    else
      none
  else
    some ((x.1.1, (x.1.2.1, ())), (x.2.1, ()))

def slices_symMergeCmpFunc_api_Packet_L21 (_N : Nat) (F : ((Int × (Int × Unit)) × ((List Ti5) × Unit)) → Option (Unit × ((List Ti5) × Unit))) (x : ((Int × (Int × Unit)) × ((List Ti5) × Unit))) : Option (Unit × ((List Ti5) × Unit)) :=
  bif (decide (x.1.1 < x.1.2.1)) then
    bif ((decide ((0 : Int) ≤ (IntKind.wrap .i64 (x.1.2.1 - 1)))) && (decide ((IntKind.wrap .i64 (x.1.2.1 - 1)) < (((x.2.1).length : Nat) : Int)))) then
      bif ((decide ((0 : Int) ≤ x.1.2.1)) && (decide (x.1.2.1 < (((x.2.1).length : Nat) : Int)))) then
        bif ((decide ((0 : Int) ≤ x.1.2.1)) && (decide (x.1.2.1 < (((x.2.1).length : Nat) : Int)))) then
          bif ((decide ((0 : Int) ≤ (IntKind.wrap .i64 (x.1.2.1 - 1)))) && (decide ((IntKind.wrap .i64 (x.1.2.1 - 1)) < ((((x.2.1.set (x.1.2.1 : Int).toNat (x.2.1.getD ((IntKind.wrap .i64 (x.1.2.1 - 1)) : Int).toNat (0, (0, (0, (0, 0))))))).length : Nat) : Int)))) then
            F ((x.1.1, ((IntKind.wrap .i64 (x.1.2.1 - 1)), ())), (((x.2.1.set (x.1.2.1 : Int).toNat (x.2.1.getD ((IntKind.wrap .i64 (x.1.2.1 - 1)) : Int).toNat (0, (0, (0, (0, 0)))))).set ((IntKind.wrap .i64 (x.1.2.1 - 1)) : Int).toNat (x.2.1.getD (x.1.2.1 : Int).toNat (0, (0, (0, (0, 0)))))), ()))
          else
            none
        else
          none
      else
        none
    else
      none
  else
    some ((), (x.2.1, ()))

def slices_symMergeCmpFunc_api_Packet_L33 (N : Nat) (F : ((Int × (Int × (Int × (Int × (Int × (Int × (Int × (Int × Unit)))))))) × ((List Ti5) × Unit)) → Option ((Int × (Int × (Int × (Int × (Int × (Int × Unit)))))) × ((List Ti5) × Unit))) (x : ((Int × (Int × (Int × (Int × (Int × (Int × (Int × (Int × Unit)))))))) × ((List Ti5) × Unit))) : Option ((Int × (Int × (Int × (Int × (Int × (Int × Unit)))))) × ((List Ti5) × Unit)) :=
  bif (decide (x.1.2.2.2.2.2.1 < x.1.2.2.2.2.2.2.1)) then
    bif ((decide ((0 : Int) ≤ (IntKind.wrap .i64 (x.1.2.2.2.2.2.2.2.1 - (IntKind.wrap .i64 (Int.fdiv (IntKind.wrap .u64 (IntKind.wrap .i64 (x.1.2.2.2.2.2.1 + x.1.2.2.2.2.2.2.1))) 2)))))) && (decide ((IntKind.wrap .i64 (x.1.2.2.2.2.2.2.2.1 - (IntKind.wrap .i64 (Int.fdiv (IntKind.wrap .u64 (IntKind.wrap .i64 (x.1.2.2.2.2.2.1 + x.1.2.2.2.2.2.2.1))) 2)))) < (((x.2.1).length : Nat) : Int)))) then
      bif ((decide ((0 : Int) ≤ (IntKind.wrap .i64 (Int.fdiv (IntKind.wrap .u64 (IntKind.wrap .i64 (x.1.2.2.2.2.2.1 + x.1.2.2.2.2.2.2.1))) 2)))) && (decide ((IntKind.wrap .i64 (Int.fdiv (IntKind.wrap .u64 (IntKind.wrap .i64 (x.1.2.2.2.2.2.1 + x.1.2.2.2.2.2.2.1))) 2)) < (((x.2.1).length : Nat) : Int)))) then
        (chain_coming_1 N (x.2.1.getD ((IntKind.wrap .i64 (x.1.2.2.2.2.2.2.2.1 - (IntKind.wrap .i64 (Int.fdiv (IntKind.wrap .u64 (IntKind.wrap .i64 (x.1.2.2.2.2.2.1 + x.1.2.2.2.2.2.2.1))) 2)))) : Int).toNat (0, (0, (0, (0, 0))))) (x.2.1.getD ((IntKind.wrap .i64 (Int.fdiv (IntKind.wrap .u64 (IntKind.wrap .i64 (x.1.2.2.2.2.2.1 + x.1.2.2.2.2.2.2.1))) 2)) : Int).toNat (0, (0, (0, (0, 0)))))).bind fun r0 =>
        bif (! (decide (r0 < 0))) then
          F ((x.1.1, (x.1.2.1, (x.1.2.2.1, (x.1.2.2.2.1, (x.1.2.2.2.2.1, ((IntKind.wrap .i64 ((IntKind.wrap .i64 (Int.fdiv (IntKind.wrap .u64 (IntKind.wrap .i64 (x.1.2.2.2.2.2.1 + x.1.2.2.2.2.2.2.1))) 2)) + 1)), (x.1.2.2.2.2.2.2.1, (x.1.2.2.2.2.2.2.2.1, ())))))))), (x.2.1, ()))
        else
          F ((x.1.1, (x.1.2.1, (x.1.2.2.1, (x.1.2.2.2.1, (x.1.2.2.2.2.1, (x.1.2.2.2.2.2.1, ((IntKind.wrap .i64 (Int.fdiv (IntKind.wrap .u64 (IntKind.wrap .i64 (x.1.2.2.2.2.2.1 + x.1.2.2.2.2.2.2.1))) 2)), (x.1.2.2.2.2.2.2.2.1, ())))))))), (x.2.1, ()))
      else
        none
    else
      none
  else
    some ((x.1.1, (x.1.2.1, (x.1.2.2.1, (x.1.2.2.2.1, (x.1.2.2.2.2.1, (x.1.2.2.2.2.2.1, ())))))), (x.2.1, ()))
def slices_symMergeCmpFunc_api_Packet_S_j3 (_N : Nat) (F : ((Int × (Int × (Int × Unit))) × ((List Ti5) × Unit)) → Option (Unit × ((List Ti5) × Unit))) (r100 : ((Int × (Int × (Int × (Int × (Int × (Int × Unit)))))) × ((List Ti5) × Unit))) (p300 : (List Ti5)) : Option (Unit × ((List Ti5) × Unit)) :=
  bif ((decide (r100.1.2.2.2.1 < (IntKind.wrap .i64 (r100.1.2.2.2.2.1 - r100.1.2.2.2.2.2.1)))) == true) then
    bif (decide ((IntKind.wrap .i64 (r100.1.2.2.2.2.1 - r100.1.2.2.2.2.2.1)) < r100.1.2.2.1)) then
      (F ((r100.1.2.2.2.1, ((IntKind.wrap .i64 (r100.1.2.2.2.2.1 - r100.1.2.2.2.2.2.1)), (r100.1.2.2.1, ()))), (p300, ()))).bind fun r300 =>
      some ((), (r300.2.1, ()))
    else
      some ((), (p300, ()))
  else
    some ((), (p300, ()))
def slices_symMergeCmpFunc_api_Packet_S_j2 (N : Nat) (F : ((Int × (Int × (Int × Unit))) × ((List Ti5) × Unit)) → Option (Unit × ((List Ti5) × Unit))) (r100 : ((Int × (Int × (Int × (Int × (Int × (Int × Unit)))))) × ((List Ti5) × Unit))) (p200 : (List Ti5)) : Option (Unit × ((List Ti5) × Unit)) :=
  bif ((decide (r100.1.1 < r100.1.2.2.2.2.2.1)) == true) then
    bif (decide (r100.1.2.2.2.2.2.1 < r100.1.2.2.2.1)) then
      (F ((r100.1.1, (r100.1.2.2.2.2.2.1, (r100.1.2.2.2.1, ()))), (p200, ()))).bind fun r200 =>
      slices_symMergeCmpFunc_api_Packet_S_j3 N F r100 r200.2.1
    else
      slices_symMergeCmpFunc_api_Packet_S_j3 N F r100 p200
  else
    slices_symMergeCmpFunc_api_Packet_S_j3 N F r100 p200
def slices_symMergeCmpFunc_api_Packet_S_j1 (N : Nat) (F : ((Int × (Int × (Int × Unit))) × ((List Ti5) × Unit)) → Option (Unit × ((List Ti5) × Unit))) (x : ((Int × (Int × (Int × Unit))) × ((List Ti5) × Unit))) (p100 : Int) (p101 : Int) : Option (Unit × ((List Ti5) × Unit)) :=
  (iter (slices_symMergeCmpFunc_api_Packet_L33 N) N ((x.1.1, (x.1.2.1, (x.1.2.2.1, ((IntKind.wrap .i64 (Int.fdiv (IntKind.wrap .u64 (IntKind.wrap .i64 (x.1.1 + x.1.2.2.1))) 2)), ((IntKind.wrap .i64 ((IntKind.wrap .i64 (Int.fdiv (IntKind.wrap .u64 (IntKind.wrap .i64 (x.1.1 + x.1.2.2.1))) 2)) + x.1.2.1)), (p100, (p101, ((IntKind.wrap .i64 ((IntKind.wrap .i64 ((IntKind.wrap .i64 (Int.fdiv (IntKind.wrap .u64 (IntKind.wrap .i64 (x.1.1 + x.1.2.2.1))) 2)) + x.1.2.1)) - 1)), ())))))))), (x.2.1, ()))).bind fun r100 =>
  bif ((decide (r100.1.2.2.2.2.2.1 < r100.1.2.1)) == true) then
    bif (decide (r100.1.2.1 < (IntKind.wrap .i64 (r100.1.2.2.2.2.1 - r100.1.2.2.2.2.2.1)))) then
      (slices_rotateCmpFunc_api_Packet N ((r100.1.2.2.2.2.2.1, (r100.1.2.1, ((IntKind.wrap .i64 (r100.1.2.2.2.2.1 - r100.1.2.2.2.2.2.1)), ()))), (r100.2.1, ()))).bind fun r101 =>
      slices_symMergeCmpFunc_api_Packet_S_j2 N F r100 r101.2.1
    else
      slices_symMergeCmpFunc_api_Packet_S_j2 N F r100 r100.2.1
  else
    slices_symMergeCmpFunc_api_Packet_S_j2 N F r100 r100.2.1
def slices_symMergeCmpFunc_api_Packet_S (N : Nat) (F : ((Int × (Int × (Int × Unit))) × ((List Ti5) × Unit)) → Option (Unit × ((List Ti5) × Unit))) (x : ((Int × (Int × (Int × Unit))) × ((List Ti5) × Unit))) : Option (Unit × ((List Ti5) × Unit)) :=
  bif ((IntKind.wrap .i64 (x.1.2.1 - x.1.1)) == 1) then
    (iter (slices_symMergeCmpFunc_api_Packet_L3 N) N ((x.1.1, (x.1.2.1, (x.1.2.2.1, ()))), (x.2.1, ()))).bind fun r0 =>
    (iter (slices_symMergeCmpFunc_api_Packet_L9 N) N ((r0.1.2.1, (r0.1.1, ())), (r0.2.1, ()))).bind fun r1 =>
    some ((), (r1.2.1, ()))
  else
    bif ((IntKind.wrap .i64 (x.1.2.2.1 - x.1.2.1)) == 1) then
      (iter (slices_symMergeCmpFunc_api_Packet_L15 N) N ((x.1.2.1, (x.1.1, (x.1.2.1, ()))), (x.2.1, ()))).bind fun r2 =>
      (iter (slices_symMergeCmpFunc_api_Packet_L21 N) N ((r2.1.2.1, (r2.1.1, ())), (r2.2.1, ()))).bind fun r3 =>
      some ((), (r3.2.1, ()))
    else
      bif (decide ((IntKind.wrap .i64 (Int.fdiv (IntKind.wrap .u64 (IntKind.wrap .i64 (x.1.1 + x.1.2.2.1))) 2)) < x.1.2.1)) then
        slices_symMergeCmpFunc_api_Packet_S_j1 N F x (IntKind.wrap .i64 ((IntKind.wrap .i64 ((IntKind.wrap .i64 (Int.fdiv (IntKind.wrap .u64 (IntKind.wrap .i64 (x.1.1 + x.1.2.2.1))) 2)) + x.1.2.1)) - x.1.2.2.1)) (IntKind.wrap .i64 (Int.fdiv (IntKind.wrap .u64 (IntKind.wrap .i64 (x.1.1 + x.1.2.2.1))) 2))
      else
        slices_symMergeCmpFunc_api_Packet_S_j1 N F x x.1.1 x.1.2.1
def slices_symMergeCmpFunc_api_Packet_I (N : Nat) : Nat → ((Int × (Int × (Int × Unit))) × ((List Ti5) × Unit)) → Option (Unit × ((List Ti5) × Unit))
  | 0, _ => none
  | k + 1, x => slices_symMergeCmpFunc_api_Packet_S N (slices_symMergeCmpFunc_api_Packet_I N k) x
def slices_symMergeCmpFunc_api_Packet (N : Nat) (x : ((Int × (Int × (Int × Unit))) × ((List Ti5) × Unit))) : Option (Unit × ((List Ti5) × Unit)) := slices_symMergeCmpFunc_api_Packet_I N N x

def slices_stableCmpFunc_api_Packet_L2 (N : Nat) (F : ((Int × (Int × (Int × (Int × Unit)))) × ((List Ti5) × Unit)) → Option ((Int × (Int × (Int × Unit))) × ((List Ti5) × Unit))) (x : ((Int × (Int × (Int × (Int × Unit)))) × ((List Ti5) × Unit))) : Option ((Int × (Int × (Int × Unit))) × ((List Ti5) × Unit)) :=
  bif (decide (x.1.2.2.2.1 ≤ x.1.1)) then
    (slices_insertionSortCmpFunc_api_Packet N ((x.1.2.2.1, (x.1.2.2.2.1, ())), (x.2.1, ()))).bind fun r0 =>
    F ((x.1.1, (x.1.2.1, (x.1.2.2.2.1, ((IntKind.wrap .i64 (x.1.2.2.2.1 + x.1.2.1)), ())))), (r0.2.1, ()))
  else
    some ((x.1.1, (x.1.2.1, (x.1.2.2.1, ()))), (x.2.1, ()))

def slices_stableCmpFunc_api_Packet_L9 (N : Nat) (F : ((Int × (Int × (Int × (Int × Unit)))) × ((List Ti5) × Unit)) → Option ((Int × (Int × (Int × Unit))) × ((List Ti5) × Unit))) (x : ((Int × (Int × (Int × (Int × Unit)))) × ((List Ti5) × Unit))) : Option ((Int × (Int × (Int × Unit))) × ((List Ti5) × Unit)) :=
  bif (decide (x.1.2.2.2.1 ≤ x.1.1)) then
    (slices_symMergeCmpFunc_api_Packet N ((x.1.2.2.1, ((IntKind.wrap .i64 (x.1.2.2.1 + x.1.2.1)), (x.1.2.2.2.1, ()))), (x.2.1, ()))).bind fun r0 =>
    F ((x.1.1, (x.1.2.1, (x.1.2.2.2.1, ((IntKind.wrap .i64 (x.1.2.2.2.1 + (IntKind.wrap .i64 (2 * x.1.2.1)))), ())))), (r0.2.1, ()))
  else
    some ((x.1.1, (x.1.2.1, (x.1.2.2.1, ()))), (x.2.1, ()))

def slices_stableCmpFunc_api_Packet_L7 (N : Nat) (F : ((Int × (Int × Unit)) × ((List Ti5) × Unit)) → Option (Unit × ((List Ti5) × Unit))) (x : ((Int × (Int × Unit)) × ((List Ti5) × Unit))) : Option (Unit × ((List Ti5) × Unit)) :=
  bif (decide (x.1.2.1 < x.1.1)) then
    (iter (slices_stableCmpFunc_api_Packet_L9 N) N ((x.1.1, (x.1.2.1, (0, ((IntKind.wrap .i64 (2 * x.1.2.1)), ())))), (x.2.1, ()))).bind fun r0 =>
    bif (decide ((IntKind.wrap .i64 (r0.1.2.2.1 + r0.1.2.1)) < r0.1.1)) then
      (slices_symMergeCmpFunc_api_Packet N ((r0.1.2.2.1, ((IntKind.wrap .i64 (r0.1.2.2.1 + r0.1.2.1)), (r0.1.1, ()))), (r0.2.1, ()))).bind fun r1 =>
      F ((r0.1.1, ((IntKind.wrap .i64 (r0.1.2.1 * 2)), ())), (r1.2.1, ()))
    else
      F ((r0.1.1, ((IntKind.wrap .i64 (r0.1.2.1 * 2)), ())), (r0.2.1, ()))
  else
    some ((), (x.2.1, ()))

def slices_stableCmpFunc_api_Packet (N : Nat) (x : ((Int × Unit) × ((List Ti5) × Unit))) : Option (Unit × ((List Ti5) × Unit)) :=
  (iter (slices_stableCmpFunc_api_Packet_L2 N) N ((x.1.1, (20, (0, (20, ())))), (x.2.1, ()))).bind fun r0 =>
  (slices_insertionSortCmpFunc_api_Packet N ((r0.1.2.2.1, (r0.1.1, ())), (r0.2.1, ()))).bind fun r1 =>
  (iter (slices_stableCmpFunc_api_Packet_L7 N) N ((r0.1.1, (r0.1.2.1, ())), (r1.2.1, ()))).bind fun r2 =>
  some ((), (r2.2.1, ()))

def slices_SortStableFunc_api_Packet_api_Packet (N : Nat) (x : (Unit × ((List Ti5) × Unit))) : Option (Unit × ((List Ti5) × Unit)) :=
  (slices_stableCmpFunc_api_Packet N (((((x.2.1).length : Nat) : Int), ()), (x.2.1, ()))).bind fun r0 =>
  some ((), (r0.2.1, ()))

def chain_coming_L3 (N : Nat) (F : ((Int × (Int × Unit)) × ((List Ti5) × Unit)) → Option (Unit × ((List Ti5) × Unit))) (x : ((Int × (Int × Unit)) × ((List Ti5) × Unit))) : Option (Unit × ((List Ti5) × Unit)) :=
  bif (decide (x.1.2.1 < x.1.1)) then
    bif ((decide ((0 : Int) ≤ x.1.2.1)) && (decide (x.1.2.1 < (((x.2.1).length : Nat) : Int)))) then
      (sat_Clamp N (x.2.1.getD (x.1.2.1 : Int).toNat (0, (0, (0, (0, 0))))).2.2.1 1 65536).bind fun r0 =>
      bif ((decide ((0 : Int) ≤ x.1.2.1)) && (decide (x.1.2.1 < (((x.2.1).length : Nat) : Int)))) then
        bif ((decide ((0 : Int) ≤ x.1.2.1)) && (decide (x.1.2.1 < ((((x.2.1.set (x.1.2.1 : Int).toNat ((x.2.1.getD (x.1.2.1 : Int).toNat (0, (0, (0, (0, 0))))).1, ((x.2.1.getD (x.1.2.1 : Int).toNat (0, (0, (0, (0, 0))))).2.1, (r0, (x.2.1.getD (x.1.2.1 : Int).toNat (0, (0, (0, (0, 0))))).2.2.2))))).length : Nat) : Int)))) then
          (sat_Clamp N ((x.2.1.set (x.1.2.1 : Int).toNat ((x.2.1.getD (x.1.2.1 : Int).toNat (0, (0, (0, (0, 0))))).1, ((x.2.1.getD (x.1.2.1 : Int).toNat (0, (0, (0, (0, 0))))).2.1, (r0, (x.2.1.getD (x.1.2.1 : Int).toNat (0, (0, (0, (0, 0))))).2.2.2)))).getD (x.1.2.1 : Int).toNat (0, (0, (0, (0, 0))))).2.2.2.2 0 67108864).bind fun r1 =>
          bif ((decide ((0 : Int) ≤ x.1.2.1)) && (decide (x.1.2.1 < ((((x.2.1.set (x.1.2.1 : Int).toNat ((x.2.1.getD (x.1.2.1 : Int).toNat (0, (0, (0, (0, 0))))).1, ((x.2.1.getD (x.1.2.1 : Int).toNat (0, (0, (0, (0, 0))))).2.1, (r0, (x.2.1.getD (x.1.2.1 : Int).toNat (0, (0, (0, (0, 0))))).2.2.2))))).length : Nat) : Int)))) then
            F ((x.1.1, ((IntKind.wrap .i64 (x.1.2.1 + 1)), ())), (((x.2.1.set (x.1.2.1 : Int).toNat ((x.2.1.getD (x.1.2.1 : Int).toNat (0, (0, (0, (0, 0))))).1, ((x.2.1.getD (x.1.2.1 : Int).toNat (0, (0, (0, (0, 0))))).2.1, (r0, (x.2.1.getD (x.1.2.1 : Int).toNat (0, (0, (0, (0, 0))))).2.2.2)))).set (x.1.2.1 : Int).toNat (((x.2.1.set (x.1.2.1 : Int).toNat ((x.2.1.getD (x.1.2.1 : Int).toNat (0, (0, (0, (0, 0))))).1, ((x.2.1.getD (x.1.2.1 : Int).toNat (0, (0, (0, (0, 0))))).2.1, (r0, (x.2.1.getD (x.1.2.1 : Int).toNat (0, (0, (0, (0, 0))))).2.2.2)))).getD (x.1.2.1 : Int).toNat (0, (0, (0, (0, 0))))).1, (((x.2.1.set (x.1.2.1 : Int).toNat ((x.2.1.getD (x.1.2.1 : Int).toNat (0, (0, (0, (0, 0))))).1, ((x.2.1.getD (x.1.2.1 : Int).toNat (0, (0, (0, (0, 0))))).2.1, (r0, (x.2.1.getD (x.1.2.1 : Int).toNat (0, (0, (0, (0, 0))))).2.2.2)))).getD (x.1.2.1 : Int).toNat (0, (0, (0, (0, 0))))).2.1, (((x.2.1.set (x.1.2.1 : Int).toNat ((x.2.1.getD (x.1.2.1 : Int).toNat (0, (0, (0, (0, 0))))).1, ((x.2.1.getD (x.1.2.1 : Int).toNat (0, (0, (0, (0, 0))))).2.1, (r0, (x.2.1.getD (x.1.2.1 : Int).toNat (0, (0, (0, (0, 0))))).2.2.2)))).getD (x.1.2.1 : Int).toNat (0, (0, (0, (0, 0))))).2.2.1, (((x.2.1.set (x.1.2.1 : Int).toNat ((x.2.1.getD (x.1.2.1 : Int).toNat (0, (0, (0, (0, 0))))).1, ((x.2.1.getD (x.1.2.1 : Int).toNat (0, (0, (0, (0, 0))))).2.1, (r0, (x.2.1.getD (x.1.2.1 : Int).toNat (0, (0, (0, (0, 0))))).2.2.2)))).getD (x.1.2.1 : Int).toNat (0, (0, (0, (0, 0))))).2.2.2.1, r1))))), ()))
          else
            none
        else
          none
      else
        none
    else
      none
  else
    some ((), (x.2.1, ()))

def chain_coming (N : Nat) (a0 : (List Ti5)) : Option (List Ti5) :=
  (slices_Clone_api_Packet_api_Packet N a0).bind fun r0 =>
  (iter (chain_coming_L3 N) N (((((r0).length : Nat) : Int), (0, ())), (r0, ()))).bind fun r1 =>
  (slices_SortStableFunc_api_Packet_api_Packet N ((), (r1.2.1, ()))).bind fun r2 =>
  some r2.2.1

def dual_Queue_Tally (_N : Nat) (x : ((Int × Unit) × ((Ti8 × (Ti9 × (Ti9 × (Ti9 × ((Int × Int) × (Int × Unit)))))) × Unit))) : Option Ti9 :=
  bif ((x.1.1 == 1) == false) then
    bif (x.1.1 == 2) then
      bif (decide (x.1.1 = 0)) then
        some x.2.1.2.1
      else
        bif (decide (x.1.1 = 1)) then
          some x.2.1.2.2.1
        else
          bif (decide (x.1.1 = 2)) then
            some x.2.1.2.2.2.1
          else
            none
    else
      some ((IntKind.wrap .i64 (x.2.1.2.2.1.1 + x.2.1.2.2.2.1.1)), ((IntKind.wrap .i64 (x.2.1.2.2.1.2.1 + x.2.1.2.2.2.1.2.1)), ((IntKind.wrap .i64 (x.2.1.2.2.1.2.2.1 + x.2.1.2.2.2.1.2.2.1)), ((IntKind.wrap .i64 (x.2.1.2.2.1.2.2.2.1 + x.2.1.2.2.2.1.2.2.2.1)), ((IntKind.wrap .i64 (x.2.1.2.2.1.2.2.2.2.1 + x.2.1.2.2.2.1.2.2.2.2.1)), ((IntKind.wrap .i64 (x.2.1.2.2.1.2.2.2.2.2.1 + x.2.1.2.2.2.1.2.2.2.2.2.1)), ((IntKind.wrap .i64 (x.2.1.2.2.1.2.2.2.2.2.2.1 + x.2.1.2.2.2.1.2.2.2.2.2.2.1)), ((IntKind.wrap .i64 (x.2.1.2.2.1.2.2.2.2.2.2.2.1 + x.2.1.2.2.2.1.2.2.2.2.2.2.2.1)), (IntKind.wrap .i64 (x.2.1.2.2.1.2.2.2.2.2.2.2.2 + x.2.1.2.2.2.1.2.2.2.2.2.2.2.2))))))))))
  else
    bif (decide (x.1.1 = 0)) then
      some x.2.1.2.1
    else
      bif (decide (x.1.1 = 1)) then
        some x.2.1.2.2.1
      else
        bif (decide (x.1.1 = 2)) then
          some x.2.1.2.2.2.1
        else
          none

def dual_Queue_Waits (N : Nat) (x : (Unit × ((Ti8 × (Ti9 × (Ti9 × (Ti9 × ((Int × Int) × (Int × Unit)))))) × Unit))) : Option Bool :=
  (dual_Queue_Tally N ((0, ()), ((x.2.1.1, (x.2.1.2.1, (x.2.1.2.2.1, (x.2.1.2.2.2.1, (x.2.1.2.2.2.2.1, (x.2.1.2.2.2.2.2.1, ())))))), ()))).bind fun r0 =>
  some (decide ((0 : Int) < r0.2.2.2.1))

def ring_Ring_api_Packet_At (_N : Nat) (x : ((Int × Unit) × ((Int × (Int × (Int × Unit))) × ((List Ti5) × Unit)))) : Option (Ti5 × Bool) :=
  bif ((decide (x.1.1 < 0)) == false) then
    bif (decide (x.2.1.2.1 ≤ x.1.1)) then
      some ((0, (0, (0, (0, 0)))), false)
    else
      bif (! (decide ((((x.2.2.1).length : Nat) : Int) = 0))) then
        bif ((decide ((0 : Int) ≤ (Int.tmod (IntKind.wrap .i64 (x.2.1.1 + x.1.1)) (((x.2.2.1).length : Nat) : Int)))) && (decide ((Int.tmod (IntKind.wrap .i64 (x.2.1.1 + x.1.1)) (((x.2.2.1).length : Nat) : Int)) < (((x.2.2.1).length : Nat) : Int)))) then
          some ((x.2.2.1.getD ((Int.tmod (IntKind.wrap .i64 (x.2.1.1 + x.1.1)) (((x.2.2.1).length : Nat) : Int)) : Int).toNat (0, (0, (0, (0, 0))))), true)
        else
          none
      else
        none
  else
    some ((0, (0, (0, (0, 0)))), false)

def ring_Ring_api_Packet_Front (N : Nat) (x : (Unit × ((Int × (Int × (Int × Unit))) × ((List Ti5) × Unit)))) : Option (Ti5 × Bool) :=
  (ring_Ring_api_Packet_At N ((0, ()), ((x.2.1.1, (x.2.1.2.1, (x.2.1.2.2.1, ()))), (x.2.2.1, ())))).bind fun r0 =>
  some r0

def dual_Queue_size (N : Nat) (x : ((Int × Unit) × ((Ti8 × (Ti9 × (Ti9 × (Ti9 × ((Int × Int) × (Int × Unit)))))) × ((Int × (Int × (Int × Unit))) × ((Int × (Int × (Int × Unit))) × ((List Ti5) × ((List Ti5) × Unit))))))) : Option Int :=
  bif (decide (x.1.1 = 0)) then
    some 0
  else
    bif (decide (x.1.1 = 1)) then
      (ring_Ring_api_Packet_Front N ((), ((x.2.2.1.1, (x.2.2.1.2.1, (x.2.2.1.2.2.1, ()))), (x.2.2.2.2.1, ())))).bind fun r0 =>
      some r0.1.2.2.1
    else
      bif (decide (x.1.1 = 2)) then
        (ring_Ring_api_Packet_Front N ((), ((x.2.2.2.1.1, (x.2.2.2.1.2.1, (x.2.2.2.1.2.2.1, ()))), (x.2.2.2.2.2.1, ())))).bind fun r1 =>
        some r1.1.2.2.1
      else
        none
def turn_size (N : Nat) (a0 : Int) : Option Int :=
  (sat_Clamp N a0 0 65536).bind fun r0 =>
  some r0
def turn_owed (N : Nat) (a0 : Int) : Option Int :=
  (sat_Clamp N a0 0 1099511627776).bind fun r0 =>
  some r0
def turn_Pick (N : Nat) (a0 : Int) (a1 : Int) (a2 : Int) : Option Int :=
  (turn_size N a1).bind fun r0 =>
  (turn_size N a2).bind fun r1 =>
  bif ((r0 == 0) == true) then
    bif (r1 == 0) then
      some 0
    else bif ((r0 == 0) == false) then
      bif ((decide ((0 : Int) < r1)) == true) then
        (turn_owed N a0).bind fun r2 =>
        bif (decide ((IntKind.wrap .i64 (15 * r1)) ≤ r2)) then
          some 2
        else some 1
      else some 1
    else some 2
  else bif ((r0 == 0) == false) then
    bif ((decide ((0 : Int) < r1)) == true) then
      (turn_owed N a0).bind fun r3 =>
      bif (decide ((IntKind.wrap .i64 (15 * r1)) ≤ r3)) then
        some 2
      else some 1
    else some 1
  else some 2

def dual_Queue_delay (N : Nat) (x : ((Int × (Int × Unit)) × ((Ti8 × (Ti9 × (Ti9 × (Ti9 × ((Int × Int) × (Int × Unit)))))) × ((Int × (Int × (Int × Unit))) × ((Int × (Int × (Int × Unit))) × ((List Ti5) × ((List Ti5) × Unit))))))) : Option Int :=
  bif (decide (x.1.1 = 0)) then
    some 0
  else
    bif (decide (x.1.1 = 1)) then
      (ring_Ring_api_Packet_Front N ((), ((x.2.2.1.1, (x.2.2.1.2.1, (x.2.2.1.2.2.1, ()))), (x.2.2.2.2.1, ())))).bind fun r0 =>
      bif (!r0.2) then
        some 0
      else
        (sat_Clamp N x.1.2.1 0 1125899906842624).bind fun r1 =>
        some (imx (IntKind.wrap .i64 (r1 - r0.1.2.2.2.2)) 0)
    else
      bif (decide (x.1.1 = 2)) then
        (ring_Ring_api_Packet_Front N ((), ((x.2.2.2.1.1, (x.2.2.2.1.2.1, (x.2.2.2.1.2.2.1, ()))), (x.2.2.2.2.2.1, ())))).bind fun r2 =>
        bif (!r2.2) then
          some 0
        else
          (sat_Clamp N x.1.2.1 0 1125899906842624).bind fun r3 =>
          some (imx (IntKind.wrap .i64 (r3 - r2.1.2.2.2.2)) 0)
      else
        none

def ring_Ring_api_Packet_Pop (N : Nat) (x : (Unit × ((Int × (Int × (Int × Unit))) × ((List Ti5) × Unit)))) : Option ((Ti5 × (Bool × Unit)) × ((Int × (Int × (Int × Unit))) × ((List Ti5) × Unit))) :=
  (ring_Ring_api_Packet_Front N ((), ((x.2.1.1, (x.2.1.2.1, (x.2.1.2.2.1, ()))), (x.2.2.1, ())))).bind fun r0 =>
  bif r0.2 then
    bif ((decide ((0 : Int) ≤ x.2.1.1)) && (decide (x.2.1.1 < (((x.2.2.1).length : Nat) : Int)))) then
      bif (! (decide (((((x.2.2.1.set (x.2.1.1 : Int).toNat (0, (0, (0, (0, 0)))))).length : Nat) : Int) = 0))) then
        some ((r0.1, (r0.2, ())), (((Int.tmod (IntKind.wrap .i64 (x.2.1.1 + 1)) ((((x.2.2.1.set (x.2.1.1 : Int).toNat (0, (0, (0, (0, 0)))))).length : Nat) : Int)), ((IntKind.wrap .i64 (x.2.1.2.1 - 1)), (x.2.1.2.2.1, ()))), ((x.2.2.1.set (x.2.1.1 : Int).toNat (0, (0, (0, (0, 0))))), ())))
      else
        none
    else
      none
  else
    some ((r0.1, (r0.2, ())), ((x.2.1.1, (x.2.1.2.1, (x.2.1.2.2.1, ()))), (x.2.2.1, ())))
def couple_within_1 (N : Nat) (a0 : Int) (a1 : Int) : Option Int :=
  (sat_Clamp N a0 0 a1).bind fun r0 =>
  some r0
def couple_within (N : Nat) (a0 : Int) (a1 : Int) : Option (Int × Int) :=
  (couple_within_1 N a0 4294967296).bind fun r0 =>
  (couple_within_1 N a1 65536).bind fun r1 =>
  some (r0, r1)
def bits_Mul64 (_N : Nat) (a0 : Int) (a1 : Int) : Option (Int × Int) :=
  some ((IntKind.wrap .u64 ((IntKind.wrap .u64 ((IntKind.wrap .u64 ((Int.fdiv a0 4294967296) * (Int.fdiv a1 4294967296))) + (Int.fdiv (IntKind.wrap .u64 ((IntKind.wrap .u64 ((Int.fdiv a0 4294967296) * (bits .and .u64 a1 4294967295))) + (Int.fdiv (IntKind.wrap .u64 ((bits .and .u64 a0 4294967295) * (bits .and .u64 a1 4294967295))) 4294967296))) 4294967296))) + (Int.fdiv (IntKind.wrap .u64 ((bits .and .u64 (IntKind.wrap .u64 ((IntKind.wrap .u64 ((Int.fdiv a0 4294967296) * (bits .and .u64 a1 4294967295))) + (Int.fdiv (IntKind.wrap .u64 ((bits .and .u64 a0 4294967295) * (bits .and .u64 a1 4294967295))) 4294967296))) 4294967295) + (IntKind.wrap .u64 ((bits .and .u64 a0 4294967295) * (Int.fdiv a1 4294967296))))) 4294967296))), (IntKind.wrap .u64 (a0 * a1)))
def wide_Mul (N : Nat) (a0 : Int) (a1 : Int) : Option (Int × Int) :=
  (bits_Mul64 N a0 a1).bind fun r0 =>
  some r0
def bits_Len64_tab0 : ByteArray := bytesL [0, 1, 2, 2, 3, 3, 3, 3, 4, 4, 4, 4, 4, 4, 4, 4, 5, 5, 5, 5, 5, 5, 5, 5, 5, 5, 5, 5, 5, 5, 5, 5, 6, 6, 6, 6, 6, 6, 6, 6, 6, 6, 6, 6, 6, 6, 6, 6, 6, 6, 6, 6, 6, 6, 6, 6, 6, 6, 6, 6, 6, 6, 6, 6, 7, 7, 7, 7, 7, 7, 7, 7, 7, 7, 7, 7, 7, 7, 7, 7, 7, 7, 7, 7, 7, 7, 7, 7, 7, 7, 7, 7, 7, 7, 7, 7, 7, 7, 7, 7, 7, 7, 7, 7, 7, 7, 7, 7, 7, 7, 7, 7, 7, 7, 7, 7, 7, 7, 7, 7, 7, 7, 7, 7, 7, 7, 7, 7, 8, 8, 8, 8, 8, 8, 8, 8, 8, 8, 8, 8, 8, 8, 8, 8, 8, 8, 8, 8, 8, 8, 8, 8, 8, 8, 8, 8, 8, 8, 8, 8, 8, 8, 8, 8, 8, 8, 8, 8, 8, 8, 8, 8, 8, 8, 8, 8, 8, 8, 8, 8, 8, 8, 8, 8, 8, 8, 8, 8, 8, 8, 8, 8, 8, 8, 8, 8, 8, 8, 8, 8, 8, 8, 8, 8, 8, 8, 8, 8, 8, 8, 8, 8, 8, 8, 8, 8, 8, 8, 8, 8, 8, 8, 8, 8, 8, 8, 8, 8, 8, 8, 8, 8, 8, 8, 8, 8, 8, 8, 8, 8, 8, 8, 8, 8, 8, 8, 8, 8, 8, 8, 8, 8, 8, 8, 8, 8]
def bits_Len64 (_N : Nat) (a0 : Int) : Option Int :=
  bif (decide ((4294967296 : Int) ≤ a0)) then
    bif (decide ((65536 : Int) ≤ (Int.fdiv a0 4294967296))) then
      bif (decide ((256 : Int) ≤ (Int.fdiv (Int.fdiv a0 4294967296) 65536))) then
        bif ((decide ((0 : Int) ≤ (IntKind.wrap .u8 (Int.fdiv (Int.fdiv (Int.fdiv a0 4294967296) 65536) 256)))) && (decide ((IntKind.wrap .u8 (Int.fdiv (Int.fdiv (Int.fdiv a0 4294967296) 65536) 256)) < (((bits_Len64_tab0).size : Nat) : Int)))) then
          some (IntKind.wrap .i64 (56 + (IntKind.wrap .i64 (byteAt bits_Len64_tab0 (IntKind.wrap .u8 (Int.fdiv (Int.fdiv (Int.fdiv a0 4294967296) 65536) 256))))))
        else none
      else bif ((decide ((0 : Int) ≤ (IntKind.wrap .u8 (Int.fdiv (Int.fdiv a0 4294967296) 65536)))) && (decide ((IntKind.wrap .u8 (Int.fdiv (Int.fdiv a0 4294967296) 65536)) < (((bits_Len64_tab0).size : Nat) : Int)))) then
        some (IntKind.wrap .i64 (48 + (IntKind.wrap .i64 (byteAt bits_Len64_tab0 (IntKind.wrap .u8 (Int.fdiv (Int.fdiv a0 4294967296) 65536))))))
      else none
    else bif (decide ((256 : Int) ≤ (Int.fdiv a0 4294967296))) then
      bif ((decide ((0 : Int) ≤ (IntKind.wrap .u8 (Int.fdiv (Int.fdiv a0 4294967296) 256)))) && (decide ((IntKind.wrap .u8 (Int.fdiv (Int.fdiv a0 4294967296) 256)) < (((bits_Len64_tab0).size : Nat) : Int)))) then
        some (IntKind.wrap .i64 (40 + (IntKind.wrap .i64 (byteAt bits_Len64_tab0 (IntKind.wrap .u8 (Int.fdiv (Int.fdiv a0 4294967296) 256))))))
      else none
    else bif ((decide ((0 : Int) ≤ (IntKind.wrap .u8 (Int.fdiv a0 4294967296)))) && (decide ((IntKind.wrap .u8 (Int.fdiv a0 4294967296)) < (((bits_Len64_tab0).size : Nat) : Int)))) then
      some (IntKind.wrap .i64 (32 + (IntKind.wrap .i64 (byteAt bits_Len64_tab0 (IntKind.wrap .u8 (Int.fdiv a0 4294967296))))))
    else none
  else bif (decide ((65536 : Int) ≤ a0)) then
    bif (decide ((256 : Int) ≤ (Int.fdiv a0 65536))) then
      bif ((decide ((0 : Int) ≤ (IntKind.wrap .u8 (Int.fdiv (Int.fdiv a0 65536) 256)))) && (decide ((IntKind.wrap .u8 (Int.fdiv (Int.fdiv a0 65536) 256)) < (((bits_Len64_tab0).size : Nat) : Int)))) then
        some (IntKind.wrap .i64 (24 + (IntKind.wrap .i64 (byteAt bits_Len64_tab0 (IntKind.wrap .u8 (Int.fdiv (Int.fdiv a0 65536) 256))))))
      else none
    else bif ((decide ((0 : Int) ≤ (IntKind.wrap .u8 (Int.fdiv a0 65536)))) && (decide ((IntKind.wrap .u8 (Int.fdiv a0 65536)) < (((bits_Len64_tab0).size : Nat) : Int)))) then
      some (IntKind.wrap .i64 (16 + (IntKind.wrap .i64 (byteAt bits_Len64_tab0 (IntKind.wrap .u8 (Int.fdiv a0 65536))))))
    else none
  else bif (decide ((256 : Int) ≤ a0)) then
    bif ((decide ((0 : Int) ≤ (IntKind.wrap .u8 (Int.fdiv a0 256)))) && (decide ((IntKind.wrap .u8 (Int.fdiv a0 256)) < (((bits_Len64_tab0).size : Nat) : Int)))) then
      some (IntKind.wrap .i64 (8 + (IntKind.wrap .i64 (byteAt bits_Len64_tab0 (IntKind.wrap .u8 (Int.fdiv a0 256))))))
    else none
  else bif ((decide ((0 : Int) ≤ (IntKind.wrap .u8 a0))) && (decide ((IntKind.wrap .u8 a0) < (((bits_Len64_tab0).size : Nat) : Int)))) then
    some (IntKind.wrap .i64 (0 + (IntKind.wrap .i64 (byteAt bits_Len64_tab0 (IntKind.wrap .u8 a0)))))
  else none
def bits_LeadingZeros64 (N : Nat) (a0 : Int) : Option Int :=
  (bits_Len64 N a0).bind fun r0 =>
  some (IntKind.wrap .i64 (64 - r0))
def bits_Div64_L17 (_N : Nat) (F : ((Int × (Int × (Int × (Int × (Int × (Int × (Int × (Int × (Int × Unit))))))))) × Unit) → Option ((Int × (Int × (Int × (Int × (Int × (Int × (Int × (Int × Unit)))))))) × Unit)) (x : ((Int × (Int × (Int × (Int × (Int × (Int × (Int × (Int × (Int × Unit))))))))) × Unit)) : Option ((Int × (Int × (Int × (Int × (Int × (Int × (Int × (Int × Unit)))))))) × Unit) :=
  bif ((decide ((4294967296 : Int) ≤ x.1.2.2.2.2.2.2.2.1)) == false) then
    bif (decide ((IntKind.wrap .u64 ((IntKind.wrap .u64 (4294967296 * x.1.2.2.2.2.2.2.2.2.1)) + x.1.2.2.2.2.2.1)) < (IntKind.wrap .u64 (x.1.2.2.2.2.2.2.2.1 * x.1.2.2.2.1)))) then
      bif (decide ((4294967296 : Int) ≤ (IntKind.wrap .u64 (x.1.2.2.2.2.2.2.2.2.1 + x.1.2.2.1)))) then
        some ((x.1.1, (x.1.2.1, (x.1.2.2.1, (x.1.2.2.2.1, (x.1.2.2.2.2.1, (x.1.2.2.2.2.2.1, (x.1.2.2.2.2.2.2.1, ((IntKind.wrap .u64 (x.1.2.2.2.2.2.2.2.1 - 1)), ())))))))), ())
      else F ((x.1.1, (x.1.2.1, (x.1.2.2.1, (x.1.2.2.2.1, (x.1.2.2.2.2.1, (x.1.2.2.2.2.2.1, (x.1.2.2.2.2.2.2.1, ((IntKind.wrap .u64 (x.1.2.2.2.2.2.2.2.1 - 1)), ((IntKind.wrap .u64 (x.1.2.2.2.2.2.2.2.2.1 + x.1.2.2.1)), ()))))))))), ())
    else some ((x.1.1, (x.1.2.1, (x.1.2.2.1, (x.1.2.2.2.1, (x.1.2.2.2.2.1, (x.1.2.2.2.2.2.1, (x.1.2.2.2.2.2.2.1, (x.1.2.2.2.2.2.2.2.1, ())))))))), ())
  else bif (decide ((4294967296 : Int) ≤ (IntKind.wrap .u64 (x.1.2.2.2.2.2.2.2.2.1 + x.1.2.2.1)))) then
    some ((x.1.1, (x.1.2.1, (x.1.2.2.1, (x.1.2.2.2.1, (x.1.2.2.2.2.1, (x.1.2.2.2.2.2.1, (x.1.2.2.2.2.2.2.1, ((IntKind.wrap .u64 (x.1.2.2.2.2.2.2.2.1 - 1)), ())))))))), ())
  else F ((x.1.1, (x.1.2.1, (x.1.2.2.1, (x.1.2.2.2.1, (x.1.2.2.2.2.1, (x.1.2.2.2.2.2.1, (x.1.2.2.2.2.2.2.1, ((IntKind.wrap .u64 (x.1.2.2.2.2.2.2.2.1 - 1)), ((IntKind.wrap .u64 (x.1.2.2.2.2.2.2.2.2.1 + x.1.2.2.1)), ()))))))))), ())
def bits_Div64_L24 (_N : Nat) (F : ((Int × (Int × (Int × (Int × (Int × (Int × (Int × (Int × (Int × Unit))))))))) × Unit) → Option ((Int × (Int × (Int × (Int × (Int × (Int × Unit)))))) × Unit)) (x : ((Int × (Int × (Int × (Int × (Int × (Int × (Int × (Int × (Int × Unit))))))))) × Unit)) : Option ((Int × (Int × (Int × (Int × (Int × (Int × Unit)))))) × Unit) :=
  bif ((decide ((4294967296 : Int) ≤ x.1.2.2.2.2.2.2.2.2.1)) == false) then
    bif (decide ((IntKind.wrap .u64 ((IntKind.wrap .u64 (4294967296 * x.1.2.2.2.2.2.2.1)) + x.1.2.2.2.2.1)) < (IntKind.wrap .u64 (x.1.2.2.2.2.2.2.2.2.1 * x.1.2.2.2.1)))) then
      bif (decide ((4294967296 : Int) ≤ (IntKind.wrap .u64 (x.1.2.2.2.2.2.2.1 + x.1.2.2.1)))) then
        some ((x.1.1, (x.1.2.1, (x.1.2.2.2.2.1, (x.1.2.2.2.2.2.1, (x.1.2.2.2.2.2.2.2.1, ((IntKind.wrap .u64 (x.1.2.2.2.2.2.2.2.2.1 - 1)), ())))))), ())
      else F ((x.1.1, (x.1.2.1, (x.1.2.2.1, (x.1.2.2.2.1, (x.1.2.2.2.2.1, (x.1.2.2.2.2.2.1, ((IntKind.wrap .u64 (x.1.2.2.2.2.2.2.1 + x.1.2.2.1)), (x.1.2.2.2.2.2.2.2.1, ((IntKind.wrap .u64 (x.1.2.2.2.2.2.2.2.2.1 - 1)), ()))))))))), ())
    else some ((x.1.1, (x.1.2.1, (x.1.2.2.2.2.1, (x.1.2.2.2.2.2.1, (x.1.2.2.2.2.2.2.2.1, (x.1.2.2.2.2.2.2.2.2.1, ())))))), ())
  else bif (decide ((4294967296 : Int) ≤ (IntKind.wrap .u64 (x.1.2.2.2.2.2.2.1 + x.1.2.2.1)))) then
    some ((x.1.1, (x.1.2.1, (x.1.2.2.2.2.1, (x.1.2.2.2.2.2.1, (x.1.2.2.2.2.2.2.2.1, ((IntKind.wrap .u64 (x.1.2.2.2.2.2.2.2.2.1 - 1)), ())))))), ())
  else F ((x.1.1, (x.1.2.1, (x.1.2.2.1, (x.1.2.2.2.1, (x.1.2.2.2.2.1, (x.1.2.2.2.2.2.1, ((IntKind.wrap .u64 (x.1.2.2.2.2.2.2.1 + x.1.2.2.1)), (x.1.2.2.2.2.2.2.2.1, ((IntKind.wrap .u64 (x.1.2.2.2.2.2.2.2.2.1 - 1)), ()))))))))), ())
def bits_Div64 (N : Nat) (a0 : Int) (a1 : Int) (a2 : Int) : Option (Int × Int) :=
  bif (a2 == 0) then
    none
  else bif (decide (a2 ≤ a0)) then
    none
  else bif (a0 == 0) then
    bif (!(decide (a2 = 0))) then
      bif (!(decide (a2 = 0))) then
        some ((IntKind.wrap .u64 (Int.tdiv a1 a2)), (Int.tmod a1 a2))
      else none
    else none
  else (bits_LeadingZeros64 N a2).bind fun r0 =>
  bif (!(decide ((IntKind.wrap .u64 r0) < 0))) then
    bif (!(decide ((IntKind.wrap .u64 r0) < 0))) then
      bif (!(decide ((IntKind.wrap .u64 (64 - (IntKind.wrap .u64 r0))) < 0))) then
        bif (!(decide ((IntKind.wrap .u64 r0) < 0))) then
          bif (!(decide ((Int.fdiv (IntKind.wrap .u64 (a2 * 2 ^ (min ((IntKind.wrap .u64 r0)).toNat 64))) 4294967296) = 0))) then
            (iter (bits_Div64_L17 N) N (((IntKind.wrap .u64 (a2 * 2 ^ (min ((IntKind.wrap .u64 r0)).toNat 64))), ((IntKind.wrap .u64 r0), ((Int.fdiv (IntKind.wrap .u64 (a2 * 2 ^ (min ((IntKind.wrap .u64 r0)).toNat 64))) 4294967296), ((bits .and .u64 (IntKind.wrap .u64 (a2 * 2 ^ (min ((IntKind.wrap .u64 r0)).toNat 64))) 4294967295), ((bits .or .u64 (IntKind.wrap .u64 (a0 * 2 ^ (min ((IntKind.wrap .u64 r0)).toNat 64))) (Int.fdiv a1 (2 ^ (min ((IntKind.wrap .u64 (64 - (IntKind.wrap .u64 r0)))).toNat 64)))), ((Int.fdiv (IntKind.wrap .u64 (a1 * 2 ^ (min ((IntKind.wrap .u64 r0)).toNat 64))) 4294967296), ((bits .and .u64 (IntKind.wrap .u64 (a1 * 2 ^ (min ((IntKind.wrap .u64 r0)).toNat 64))) 4294967295), ((IntKind.wrap .u64 (Int.tdiv (bits .or .u64 (IntKind.wrap .u64 (a0 * 2 ^ (min ((IntKind.wrap .u64 r0)).toNat 64))) (Int.fdiv a1 (2 ^ (min ((IntKind.wrap .u64 (64 - (IntKind.wrap .u64 r0)))).toNat 64)))) (Int.fdiv (IntKind.wrap .u64 (a2 * 2 ^ (min ((IntKind.wrap .u64 r0)).toNat 64))) 4294967296))), ((IntKind.wrap .u64 ((bits .or .u64 (IntKind.wrap .u64 (a0 * 2 ^ (min ((IntKind.wrap .u64 r0)).toNat 64))) (Int.fdiv a1 (2 ^ (min ((IntKind.wrap .u64 (64 - (IntKind.wrap .u64 r0)))).toNat 64)))) - (IntKind.wrap .u64 ((IntKind.wrap .u64 (Int.tdiv (bits .or .u64 (IntKind.wrap .u64 (a0 * 2 ^ (min ((IntKind.wrap .u64 r0)).toNat 64))) (Int.fdiv a1 (2 ^ (min ((IntKind.wrap .u64 (64 - (IntKind.wrap .u64 r0)))).toNat 64)))) (Int.fdiv (IntKind.wrap .u64 (a2 * 2 ^ (min ((IntKind.wrap .u64 r0)).toNat 64))) 4294967296))) * (Int.fdiv (IntKind.wrap .u64 (a2 * 2 ^ (min ((IntKind.wrap .u64 r0)).toNat 64))) 4294967296))))), ()))))))))), ())).bind fun r1 =>
            bif (!(decide (r1.1.2.2.1 = 0))) then
              (iter (bits_Div64_L24 N) N ((r1.1.1, (r1.1.2.1, (r1.1.2.2.1, (r1.1.2.2.2.1, (r1.1.2.2.2.2.2.2.1, (r1.1.2.2.2.2.2.2.2.1, ((IntKind.wrap .u64 ((IntKind.wrap .u64 ((IntKind.wrap .u64 ((IntKind.wrap .u64 (r1.1.2.2.2.2.1 * 4294967296)) + r1.1.2.2.2.2.2.1)) - (IntKind.wrap .u64 (r1.1.2.2.2.2.2.2.2.1 * r1.1.1)))) - (IntKind.wrap .u64 ((IntKind.wrap .u64 (Int.tdiv (IntKind.wrap .u64 ((IntKind.wrap .u64 ((IntKind.wrap .u64 (r1.1.2.2.2.2.1 * 4294967296)) + r1.1.2.2.2.2.2.1)) - (IntKind.wrap .u64 (r1.1.2.2.2.2.2.2.2.1 * r1.1.1)))) r1.1.2.2.1)) * r1.1.2.2.1)))), ((IntKind.wrap .u64 ((IntKind.wrap .u64 ((IntKind.wrap .u64 (r1.1.2.2.2.2.1 * 4294967296)) + r1.1.2.2.2.2.2.1)) - (IntKind.wrap .u64 (r1.1.2.2.2.2.2.2.2.1 * r1.1.1)))), ((IntKind.wrap .u64 (Int.tdiv (IntKind.wrap .u64 ((IntKind.wrap .u64 ((IntKind.wrap .u64 (r1.1.2.2.2.2.1 * 4294967296)) + r1.1.2.2.2.2.2.1)) - (IntKind.wrap .u64 (r1.1.2.2.2.2.2.2.2.1 * r1.1.1)))) r1.1.2.2.1)), ()))))))))), ())).bind fun r2 =>
              bif (!(decide (r2.1.2.1 < 0))) then
                some ((IntKind.wrap .u64 ((IntKind.wrap .u64 (r2.1.2.2.2.1 * 4294967296)) + r2.1.2.2.2.2.2.1)), (Int.fdiv (IntKind.wrap .u64 ((IntKind.wrap .u64 ((IntKind.wrap .u64 (r2.1.2.2.2.2.1 * 4294967296)) + r2.1.2.2.1)) - (IntKind.wrap .u64 (r2.1.2.2.2.2.2.1 * r2.1.1)))) (2 ^ (min (r2.1.2.1).toNat 64))))
              else none
            else none
          else none
        else none
      else none
    else none
  else none
def wide_Div (N : Nat) (a0 : (Int × Int)) (a1 : Int) : Option ((Int × Int) × Int) :=
  bif (a1 == 0) then
    some ((0, 0), 0)
  else bif (!(decide (a1 = 0))) then
    bif (!(decide (a1 = 0))) then
      (bits_Div64 N (Int.tmod a0.1 a1) a0.2 a1).bind fun r0 =>
      some (((IntKind.wrap .u64 (Int.tdiv a0.1 a1)), r0.1), r0.2)
    else none
  else none
def wide_muldiv (N : Nat) (a0 : Int) (a1 : Int) (a2 : Int) : Option ((Int × Int) × (Bool × Int)) :=
  bif ((decide (a0 < 0)) == false) then
    bif ((decide (a1 < 0)) == false) then
      bif (decide (a2 ≤ 0)) then
        some ((0, 0), (false, 1))
      else (wide_Mul N (IntKind.wrap .u64 a0) (IntKind.wrap .u64 a1)).bind fun r0 =>
      (wide_Div N r0 (IntKind.wrap .u64 a2)).bind fun r1 =>
      some (r1.1, ((decide ((0 : Int) < r1.2)), 0))
    else some ((0, 0), (false, 1))
  else some ((0, 0), (false, 1))
def cmp_isNaN_uint64 (_N : Nat) (a0 : Int) : Option Bool :=
  some (!(a0 == a0))
def cmp_Compare_uint64 (N : Nat) (a0 : Int) (a1 : Int) : Option Int :=
  (cmp_isNaN_uint64 N a0).bind fun r0 =>
  (cmp_isNaN_uint64 N a1).bind fun r1 =>
  bif r0 then
    bif r1 then
      some 0
    else some (-1)
  else bif r1 then
    some 1
  else bif (decide (a0 < a1)) then
    some (-1)
  else bif (decide (a1 < a0)) then
    some 1
  else some 0
def cmp_Or_int_L3 (_N : Nat) (F : ((Int × (Int × (Int × Unit))) × ((List Int) × Unit)) → Option (((Int × Unit) × Unit) ⊕ ((Int × Unit) × Unit))) (x : ((Int × (Int × (Int × Unit))) × ((List Int) × Unit))) : Option (((Int × Unit) × Unit) ⊕ ((Int × Unit) × Unit)) :=
  bif (decide (x.1.2.2.1 < x.1.2.1)) then
    bif ((decide ((0 : Int) ≤ x.1.2.2.1)) && (decide (x.1.2.2.1 < (((x.2.1).length : Nat) : Int)))) then
      bif (!((x.2.1.getD (x.1.2.2.1 : Int).toNat 0) == x.1.1)) then
        some (.inl (((x.2.1.getD (x.1.2.2.1 : Int).toNat 0), ()), ()))
      else F ((x.1.1, (x.1.2.1, ((IntKind.wrap .i64 (x.1.2.2.1 + 1)), ()))), (x.2.1, ()))
    else none
  else some (.inr ((x.1.1, ()), ()))
def cmp_Or_int (N : Nat) (a0 : (List Int)) : Option Int :=
  (iter (cmp_Or_int_L3 N) N ((0, ((((a0).length : Nat) : Int), (0, ()))), (a0, ()))).bind fun r0 =>
  match r0 with
  | .inl r1 =>
    some r1.1.1
  | .inr r2 =>
    some r2.1.1
def wide_Cmp (N : Nat) (a0 : (Int × Int)) (a1 : (Int × Int)) : Option Int :=
  bif ((a0.1 == a1.1) && ((a0.2 == a1.2) && true)) then
    some 0
  else (cmp_Compare_uint64 N a0.1 a1.1).bind fun r0 =>
  (cmp_Compare_uint64 N a0.2 a1.2).bind fun r1 =>
  (cmp_Or_int N ([r0, r1] : List Int)).bind fun r2 =>
  some r2
def wide_told (N : Nat) (a0 : (Int × Int)) (a1 : Int) : Option (Int × Int) :=
  bif (!(a1 == 0)) then
    some (0, a1)
  else (wide_Cmp N a0 (0, 9223372036854775807)).bind fun r0 =>
  bif (decide ((0 : Int) < r0)) then
    some (0, 8)
  else some ((IntKind.wrap .i64 a0.2), 0)
def wide_MulDiv (N : Nat) (a0 : Int) (a1 : Int) (a2 : Int) : Option (Int × Int) :=
  (wide_muldiv N a0 a1 a2).bind fun r0 =>
  (wide_told N r0.1 r0.2.2).bind fun r1 =>
  some r1
def couple_Classic (N : Nat) (a0 : Int) : Option Int :=
  (couple_within N a0 0).bind fun r0 =>
  (wide_MulDiv N r0.1 r0.1 4294967296).bind fun r1 =>
  some r1.1

def dice_Dice_Next (_N : Nat) (x : (Unit × ((Int × Unit) × (Unit × ((Int × Unit) × ((List Int) × Unit)))))) : Option ((Int × Unit) × ((Int × Unit) × (Unit × ((Int × Unit) × ((List Int) × Unit))))) :=
  bif ((((x.2.2.2.2.1).length : Nat) : Int) == 0) then
    some ((4294967295, ()), (((IntKind.wrap .i64 (x.2.1.1 + 1)), ()), ((), ((x.2.2.2.1.1, ()), (x.2.2.2.2.1, ())))))
  else
    bif ((decide ((0 : Int) ≤ x.2.2.2.1.1)) && (decide (x.2.2.2.1.1 < (((x.2.2.2.2.1).length : Nat) : Int)))) then
      bif (! (decide ((((x.2.2.2.2.1).length : Nat) : Int) = 0))) then
        some (((x.2.2.2.2.1.getD (x.2.2.2.1.1 : Int).toNat 0), ()), (((IntKind.wrap .i64 (x.2.1.1 + 1)), ()), ((), (((Int.tmod (IntKind.wrap .i64 (x.2.2.2.1.1 + 1)) (((x.2.2.2.2.1).length : Nat) : Int)), ()), (x.2.2.2.2.1, ())))))
      else
        none
    else
      none
def couple_Hit (_N : Nat) (a0 : Int) (a1 : Int) : Option Bool :=
  some (decide ((IntKind.wrap .i64 a0) < a1))

def dual_Queue_hit (N : Nat) (x : ((Int × Unit) × ((Ti8 × (Ti9 × (Ti9 × (Ti9 × ((Int × Int) × (Int × Unit)))))) × ((Int × (Int × (Int × Unit))) × ((Int × (Int × (Int × Unit))) × ((Int × Unit) × (Unit × ((Int × Unit) × ((List Ti5) × ((List Ti5) × ((List Int) × Unit))))))))))) : Option ((Bool × Unit) × ((Ti8 × (Ti9 × (Ti9 × (Ti9 × ((Int × Int) × (Int × Unit)))))) × ((Int × (Int × (Int × Unit))) × ((Int × (Int × (Int × Unit))) × ((Int × Unit) × (Unit × ((Int × Unit) × ((List Ti5) × ((List Ti5) × ((List Int) × Unit)))))))))) :=
  (dice_Dice_Next N ((), ((x.2.2.2.2.1.1, ()), ((), ((x.2.2.2.2.2.2.1.1, ()), (x.2.2.2.2.2.2.2.2.2.1, ())))))).bind fun r0 =>
  (couple_Hit N r0.1.1 x.1.1).bind fun r1 =>
  some ((r1, ()), ((x.2.1.1, (x.2.1.2.1, (x.2.1.2.2.1, (x.2.1.2.2.2.1, (x.2.1.2.2.2.2.1, (x.2.1.2.2.2.2.2.1, ())))))), ((x.2.2.1.1, (x.2.2.1.2.1, (x.2.2.1.2.2.1, ()))), ((x.2.2.2.1.1, (x.2.2.2.1.2.1, (x.2.2.2.1.2.2.1, ()))), ((r0.2.1.1, ()), ((), ((r0.2.2.2.1.1, ()), (x.2.2.2.2.2.2.2.1, (x.2.2.2.2.2.2.2.2.1, (r0.2.2.2.2.1, ()))))))))))

def ecn_Mark (_N : Nat) (a0 : Int) : Option (Int × Bool) :=
  bif (a0 == 1) then
    some (3, true)
  else
    bif (a0 == 2) then
      some (3, true)
    else
      bif (a0 == 3) then
        some (3, true)
      else
        some (a0, false)
def couple_Low (N : Nat) (a0 : Int) (a1 : Int) : Option Int :=
  (couple_within N a0 a1).bind fun r0 =>
  some (if 4294967296 < (IntKind.wrap .i64 (r0.1 * r0.2)) then 4294967296 else (IntKind.wrap .i64 (r0.1 * r0.2)))
def couple_Over (N : Nat) (a0 : Int) (a1 : Int) : Option Bool :=
  (couple_within N a0 a1).bind fun r0 =>
  bif ((decide ((0 : Int) < r0.1)) == true) then
    (couple_Low N r0.1 a1).bind fun r1 =>
    some (r1 == 4294967296)
  else some false
def step_Ramp_1 (N : Nat) (a0 : Int) : Option Int :=
  (sat_Clamp N a0 0 67108864).bind fun r0 =>
  some r0
def step_Ramp (N : Nat) (a0 : Int) (a1 : Int) (a2 : Int) : Option Int :=
  (step_Ramp_1 N a0).bind fun r0 =>
  (step_Ramp_1 N a1).bind fun r1 =>
  (step_Ramp_1 N a2).bind fun r2 =>
  bif (decide (r0 < r1)) then
    some 0
  else bif (decide (r2 ≤ r0)) then
    some 4294967296
  else (wide_MulDiv N 4294967296 (IntKind.wrap .i64 (r0 - r1)) (IntKind.wrap .i64 (r2 - r1))).bind fun r3 =>
  some r3.1
def step_Mark (N : Nat) (a0 : Int) (a1 : Ti8) (a2 : Int) : Option Int :=
  (step_Ramp N a0 a1.2.2.2.2.2.2.1 a1.2.2.2.2.2.2.2).bind fun r0 =>
  (sat_Clamp N a2 0 4294967296).bind fun r1 =>
  some (if r1 > r0 then r1 else r0)

def dual_Queue_judge (N : Nat) (x : ((Int × (Ti5 × (Int × Unit))) × ((Ti8 × (Ti9 × (Ti9 × (Ti9 × ((Int × Int) × (Int × Unit)))))) × ((Int × (Int × (Int × Unit))) × ((Int × (Int × (Int × Unit))) × ((Int × Unit) × (Unit × ((Int × Unit) × ((List Ti5) × ((List Ti5) × ((List Int) × Unit))))))))))) : Option ((Int × (Bool × Unit)) × ((Ti8 × (Ti9 × (Ti9 × (Ti9 × ((Int × Int) × (Int × Unit)))))) × ((Int × (Int × (Int × Unit))) × ((Int × (Int × (Int × Unit))) × ((Int × Unit) × (Unit × ((Int × Unit) × ((List Ti5) × ((List Ti5) × ((List Int) × Unit)))))))))) :=
  bif (x.1.1 == 2) then
    (couple_Classic N x.2.1.2.2.2.2.1.1).bind fun r0 =>
    (dual_Queue_hit N ((r0, ()), ((x.2.1.1, (x.2.1.2.1, (x.2.1.2.2.1, (x.2.1.2.2.2.1, (x.2.1.2.2.2.2.1, (x.2.1.2.2.2.2.2.1, ())))))), ((x.2.2.1.1, (x.2.2.1.2.1, (x.2.2.1.2.2.1, ()))), ((x.2.2.2.1.1, (x.2.2.2.1.2.1, (x.2.2.2.1.2.2.1, ()))), ((x.2.2.2.2.1.1, ()), ((), ((x.2.2.2.2.2.2.1.1, ()), (x.2.2.2.2.2.2.2.1, (x.2.2.2.2.2.2.2.2.1, (x.2.2.2.2.2.2.2.2.2.1, ()))))))))))).bind fun r1 =>
    bif (!r1.1.1) then
      some ((x.1.2.1.2.2.2.1, (false, ())), ((r1.2.1.1, (r1.2.1.2.1, (r1.2.1.2.2.1, (r1.2.1.2.2.2.1, (r1.2.1.2.2.2.2.1, (r1.2.1.2.2.2.2.2.1, ())))))), ((r1.2.2.1.1, (r1.2.2.1.2.1, (r1.2.2.1.2.2.1, ()))), ((r1.2.2.2.1.1, (r1.2.2.2.1.2.1, (r1.2.2.2.1.2.2.1, ()))), ((r1.2.2.2.2.1.1, ()), ((), ((r1.2.2.2.2.2.2.1.1, ()), (r1.2.2.2.2.2.2.2.1, (r1.2.2.2.2.2.2.2.2.1, (r1.2.2.2.2.2.2.2.2.2.1, ()))))))))))
    else
      (ecn_Mark N x.1.2.1.2.2.2.1).bind fun r2 =>
      some ((r2.1, ((!r2.2), ())), ((r1.2.1.1, (r1.2.1.2.1, (r1.2.1.2.2.1, (r1.2.1.2.2.2.1, (r1.2.1.2.2.2.2.1, (r1.2.1.2.2.2.2.2.1, ())))))), ((r1.2.2.1.1, (r1.2.2.1.2.1, (r1.2.2.1.2.2.1, ()))), ((r1.2.2.2.1.1, (r1.2.2.2.1.2.1, (r1.2.2.2.1.2.2.1, ()))), ((r1.2.2.2.2.1.1, ()), ((), ((r1.2.2.2.2.2.2.1.1, ()), (r1.2.2.2.2.2.2.2.1, (r1.2.2.2.2.2.2.2.2.1, (r1.2.2.2.2.2.2.2.2.2.1, ()))))))))))
  else
    (couple_Over N x.2.1.2.2.2.2.1.1 x.2.1.1.2.2.2.2.2.1).bind fun r3 =>
    bif (r3 == true) then
      (couple_Classic N x.2.1.2.2.2.2.1.1).bind fun r4 =>
      (dual_Queue_hit N ((r4, ()), ((x.2.1.1, (x.2.1.2.1, (x.2.1.2.2.1, (x.2.1.2.2.2.1, (x.2.1.2.2.2.2.1, (x.2.1.2.2.2.2.2.1, ())))))), ((x.2.2.1.1, (x.2.2.1.2.1, (x.2.2.1.2.2.1, ()))), ((x.2.2.2.1.1, (x.2.2.2.1.2.1, (x.2.2.2.1.2.2.1, ()))), ((x.2.2.2.2.1.1, ()), ((), ((x.2.2.2.2.2.2.1.1, ()), (x.2.2.2.2.2.2.2.1, (x.2.2.2.2.2.2.2.2.1, (x.2.2.2.2.2.2.2.2.2.1, ()))))))))))).bind fun r5 =>
      bif r5.1.1 then
        some ((x.1.2.1.2.2.2.1, (true, ())), ((r5.2.1.1, (r5.2.1.2.1, (r5.2.1.2.2.1, (r5.2.1.2.2.2.1, (r5.2.1.2.2.2.2.1, (r5.2.1.2.2.2.2.2.1, ())))))), ((r5.2.2.1.1, (r5.2.2.1.2.1, (r5.2.2.1.2.2.1, ()))), ((r5.2.2.2.1.1, (r5.2.2.2.1.2.1, (r5.2.2.2.1.2.2.1, ()))), ((r5.2.2.2.2.1.1, ()), ((), ((r5.2.2.2.2.2.2.1.1, ()), (r5.2.2.2.2.2.2.2.1, (r5.2.2.2.2.2.2.2.2.1, (r5.2.2.2.2.2.2.2.2.2.1, ()))))))))))
      else
        (couple_Low N x.2.1.2.2.2.2.1.1 r5.2.1.1.2.2.2.2.2.1).bind fun r6 =>
        (step_Mark N x.1.2.2.1 r5.2.1.1 r6).bind fun r7 =>
        (dual_Queue_hit N ((r7, ()), ((r5.2.1.1, (r5.2.1.2.1, (r5.2.1.2.2.1, (r5.2.1.2.2.2.1, (r5.2.1.2.2.2.2.1, (r5.2.1.2.2.2.2.2.1, ())))))), ((r5.2.2.1.1, (r5.2.2.1.2.1, (r5.2.2.1.2.2.1, ()))), ((r5.2.2.2.1.1, (r5.2.2.2.1.2.1, (r5.2.2.2.1.2.2.1, ()))), ((r5.2.2.2.2.1.1, ()), ((), ((r5.2.2.2.2.2.2.1.1, ()), (r5.2.2.2.2.2.2.2.1, (r5.2.2.2.2.2.2.2.2.1, (r5.2.2.2.2.2.2.2.2.2.1, ()))))))))))).bind fun r8 =>
        bif r8.1.1 then
          (ecn_Mark N x.1.2.1.2.2.2.1).bind fun r9 =>
          some ((r9.1, (false, ())), ((r8.2.1.1, (r8.2.1.2.1, (r8.2.1.2.2.1, (r8.2.1.2.2.2.1, (r8.2.1.2.2.2.2.1, (r8.2.1.2.2.2.2.2.1, ())))))), ((r8.2.2.1.1, (r8.2.2.1.2.1, (r8.2.2.1.2.2.1, ()))), ((r8.2.2.2.1.1, (r8.2.2.2.1.2.1, (r8.2.2.2.1.2.2.1, ()))), ((r8.2.2.2.2.1.1, ()), ((), ((r8.2.2.2.2.2.2.1.1, ()), (r8.2.2.2.2.2.2.2.1, (r8.2.2.2.2.2.2.2.2.1, (r8.2.2.2.2.2.2.2.2.2.1, ()))))))))))
        else
          some ((x.1.2.1.2.2.2.1, (false, ())), ((r8.2.1.1, (r8.2.1.2.1, (r8.2.1.2.2.1, (r8.2.1.2.2.2.1, (r8.2.1.2.2.2.2.1, (r8.2.1.2.2.2.2.2.1, ())))))), ((r8.2.2.1.1, (r8.2.2.1.2.1, (r8.2.2.1.2.2.1, ()))), ((r8.2.2.2.1.1, (r8.2.2.2.1.2.1, (r8.2.2.2.1.2.2.1, ()))), ((r8.2.2.2.2.1.1, ()), ((), ((r8.2.2.2.2.2.2.1.1, ()), (r8.2.2.2.2.2.2.2.1, (r8.2.2.2.2.2.2.2.2.1, (r8.2.2.2.2.2.2.2.2.2.1, ()))))))))))
    else
      (couple_Low N x.2.1.2.2.2.2.1.1 x.2.1.1.2.2.2.2.2.1).bind fun r10 =>
      (step_Mark N x.1.2.2.1 x.2.1.1 r10).bind fun r11 =>
      (dual_Queue_hit N ((r11, ()), ((x.2.1.1, (x.2.1.2.1, (x.2.1.2.2.1, (x.2.1.2.2.2.1, (x.2.1.2.2.2.2.1, (x.2.1.2.2.2.2.2.1, ())))))), ((x.2.2.1.1, (x.2.2.1.2.1, (x.2.2.1.2.2.1, ()))), ((x.2.2.2.1.1, (x.2.2.2.1.2.1, (x.2.2.2.1.2.2.1, ()))), ((x.2.2.2.2.1.1, ()), ((), ((x.2.2.2.2.2.2.1.1, ()), (x.2.2.2.2.2.2.2.1, (x.2.2.2.2.2.2.2.2.1, (x.2.2.2.2.2.2.2.2.2.1, ()))))))))))).bind fun r12 =>
      bif r12.1.1 then
        (ecn_Mark N x.1.2.1.2.2.2.1).bind fun r13 =>
        some ((r13.1, (false, ())), ((r12.2.1.1, (r12.2.1.2.1, (r12.2.1.2.2.1, (r12.2.1.2.2.2.1, (r12.2.1.2.2.2.2.1, (r12.2.1.2.2.2.2.2.1, ())))))), ((r12.2.2.1.1, (r12.2.2.1.2.1, (r12.2.2.1.2.2.1, ()))), ((r12.2.2.2.1.1, (r12.2.2.2.1.2.1, (r12.2.2.2.1.2.2.1, ()))), ((r12.2.2.2.2.1.1, ()), ((), ((r12.2.2.2.2.2.2.1.1, ()), (r12.2.2.2.2.2.2.2.1, (r12.2.2.2.2.2.2.2.2.1, (r12.2.2.2.2.2.2.2.2.2.1, ()))))))))))
      else
        some ((x.1.2.1.2.2.2.1, (false, ())), ((r12.2.1.1, (r12.2.1.2.1, (r12.2.1.2.2.1, (r12.2.1.2.2.2.1, (r12.2.1.2.2.2.2.1, (r12.2.1.2.2.2.2.2.1, ())))))), ((r12.2.2.1.1, (r12.2.2.1.2.1, (r12.2.2.1.2.2.1, ()))), ((r12.2.2.2.1.1, (r12.2.2.2.1.2.1, (r12.2.2.2.1.2.2.1, ()))), ((r12.2.2.2.2.1.1, ()), ((), ((r12.2.2.2.2.2.2.1.1, ()), (r12.2.2.2.2.2.2.2.1, (r12.2.2.2.2.2.2.2.2.1, (r12.2.2.2.2.2.2.2.2.2.1, ()))))))))))

def ring_Ring_api_Packet_Len (_N : Nat) (x : (Unit × ((Int × (Int × (Int × Unit))) × Unit))) : Option Int :=
  some x.2.1.2.1
def turn_Serve (N : Nat) (a0 : Int) (a1 : Int) (a2 : Int) (a3 : Bool) : Option Int :=
  (turn_size N a2).bind fun r0 =>
  bif (a1 == 1) then
    (turn_owed N a0).bind fun r1 =>
    bif (!a3) then
      some 0
    else some (if 1099511627776 < (IntKind.wrap .i64 (r1 + r0)) then 1099511627776 else (IntKind.wrap .i64 (r1 + r0)))
  else bif (a1 == 2) then
    (turn_owed N a0).bind fun r2 =>
    bif (!a3) then
      some 0
    else some (if 0 > (IntKind.wrap .i64 (r2 - (IntKind.wrap .i64 (15 * r0)))) then 0 else (IntKind.wrap .i64 (r2 - (IntKind.wrap .i64 (15 * r0)))))
  else some a0

def dual_Queue_served (N : Nat) (x : ((Int × (Int × Unit)) × ((Ti8 × (Ti9 × (Ti9 × (Ti9 × ((Int × Int) × (Int × Unit)))))) × ((Int × (Int × (Int × Unit))) × ((Int × (Int × (Int × Unit))) × ((Int × Unit) × (Unit × ((Int × Unit) × ((List Ti5) × ((List Ti5) × ((List Int) × Unit))))))))))) : Option (Unit × ((Ti8 × (Ti9 × (Ti9 × (Ti9 × ((Int × Int) × (Int × Unit)))))) × ((Int × (Int × (Int × Unit))) × ((Int × (Int × (Int × Unit))) × ((Int × Unit) × (Unit × ((Int × Unit) × ((List Ti5) × ((List Ti5) × ((List Int) × Unit)))))))))) :=
  (ring_Ring_api_Packet_Len N ((), ((x.2.2.2.1.1, (x.2.2.2.1.2.1, (x.2.2.2.1.2.2.1, ()))), ()))).bind fun r0 =>
  (turn_Serve N x.2.1.2.2.2.2.2.1 x.1.1 x.1.2.1 (decide ((0 : Int) < r0))).bind fun r1 =>
  some ((), ((x.2.1.1, (x.2.1.2.1, (x.2.1.2.2.1, (x.2.1.2.2.2.1, (x.2.1.2.2.2.2.1, (r1, ())))))), ((x.2.2.1.1, (x.2.2.1.2.1, (x.2.2.1.2.2.1, ()))), ((x.2.2.2.1.1, (x.2.2.2.1.2.1, (x.2.2.2.1.2.2.1, ()))), ((x.2.2.2.2.1.1, ()), ((), ((x.2.2.2.2.2.2.1.1, ()), (x.2.2.2.2.2.2.2.1, (x.2.2.2.2.2.2.2.2.1, (x.2.2.2.2.2.2.2.2.2.1, ()))))))))))

def dual_Queue_Take_L2 (N : Nat) (F : ((Int × Unit) × ((Ti8 × (Ti9 × (Ti9 × (Ti9 × ((Int × Int) × (Int × Unit)))))) × ((Int × (Int × (Int × Unit))) × ((Int × (Int × (Int × Unit))) × ((Int × Unit) × (Unit × ((Int × Unit) × ((Ti5 × Unit) × ((List Ti5) × ((List Ti5) × ((List Ti5) × ((List Int) × Unit)))))))))))) → Option (((Bool × Unit) × ((Ti8 × (Ti9 × (Ti9 × (Ti9 × ((Int × Int) × (Int × Unit)))))) × ((Int × (Int × (Int × Unit))) × ((Int × (Int × (Int × Unit))) × ((Int × Unit) × (Unit × ((Int × Unit) × ((Ti5 × Unit) × ((List Ti5) × ((List Ti5) × ((List Ti5) × ((List Int) × Unit)))))))))))) ⊕ (Unit × ((Ti8 × (Ti9 × (Ti9 × (Ti9 × ((Int × Int) × (Int × Unit)))))) × ((Int × (Int × (Int × Unit))) × ((Int × (Int × (Int × Unit))) × ((Int × Unit) × (Unit × ((Int × Unit) × ((Ti5 × Unit) × ((List Ti5) × ((List Ti5) × ((List Ti5) × ((List Int) × Unit)))))))))))))) (x : ((Int × Unit) × ((Ti8 × (Ti9 × (Ti9 × (Ti9 × ((Int × Int) × (Int × Unit)))))) × ((Int × (Int × (Int × Unit))) × ((Int × (Int × (Int × Unit))) × ((Int × Unit) × (Unit × ((Int × Unit) × ((Ti5 × Unit) × ((List Ti5) × ((List Ti5) × ((List Ti5) × ((List Int) × Unit))))))))))))) : Option (((Bool × Unit) × ((Ti8 × (Ti9 × (Ti9 × (Ti9 × ((Int × Int) × (Int × Unit)))))) × ((Int × (Int × (Int × Unit))) × ((Int × (Int × (Int × Unit))) × ((Int × Unit) × (Unit × ((Int × Unit) × ((Ti5 × Unit) × ((List Ti5) × ((List Ti5) × ((List Ti5) × ((List Int) × Unit)))))))))))) ⊕ (Unit × ((Ti8 × (Ti9 × (Ti9 × (Ti9 × ((Int × Int) × (Int × Unit)))))) × ((Int × (Int × (Int × Unit))) × ((Int × (Int × (Int × Unit))) × ((Int × Unit) × (Unit × ((Int × Unit) × ((Ti5 × Unit) × ((List Ti5) × ((List Ti5) × ((List Ti5) × ((List Int) × Unit))))))))))))) :=
  (dual_Queue_Waits N ((), ((x.2.1.1, (x.2.1.2.1, (x.2.1.2.2.1, (x.2.1.2.2.2.1, (x.2.1.2.2.2.2.1, (x.2.1.2.2.2.2.2.1, ())))))), ()))).bind fun r0 =>
  bif r0 then
    (dual_Queue_size N ((1, ()), ((x.2.1.1, (x.2.1.2.1, (x.2.1.2.2.1, (x.2.1.2.2.2.1, (x.2.1.2.2.2.2.1, (x.2.1.2.2.2.2.2.1, ())))))), ((x.2.2.1.1, (x.2.2.1.2.1, (x.2.2.1.2.2.1, ()))), ((x.2.2.2.1.1, (x.2.2.2.1.2.1, (x.2.2.2.1.2.2.1, ()))), (x.2.2.2.2.2.2.2.2.2.1, (x.2.2.2.2.2.2.2.2.2.2.1, ()))))))).bind fun r1 =>
    (dual_Queue_size N ((2, ()), ((x.2.1.1, (x.2.1.2.1, (x.2.1.2.2.1, (x.2.1.2.2.2.1, (x.2.1.2.2.2.2.1, (x.2.1.2.2.2.2.2.1, ())))))), ((x.2.2.1.1, (x.2.2.1.2.1, (x.2.2.1.2.2.1, ()))), ((x.2.2.2.1.1, (x.2.2.2.1.2.1, (x.2.2.2.1.2.2.1, ()))), (x.2.2.2.2.2.2.2.2.2.1, (x.2.2.2.2.2.2.2.2.2.2.1, ()))))))).bind fun r2 =>
    (turn_Pick N x.2.1.2.2.2.2.2.1 r1 r2).bind fun r3 =>
    bif (decide (r3 = 0)) then
      (dual_Queue_delay N ((0, (x.1.1, ())), ((x.2.1.1, (x.2.1.2.1, (x.2.1.2.2.1, (x.2.1.2.2.2.1, (x.2.1.2.2.2.2.1, (x.2.1.2.2.2.2.2.1, ())))))), ((x.2.2.1.1, (x.2.2.1.2.1, (x.2.2.1.2.2.1, ()))), ((x.2.2.2.1.1, (x.2.2.2.1.2.1, (x.2.2.2.1.2.2.1, ()))), (x.2.2.2.2.2.2.2.2.2.1, (x.2.2.2.2.2.2.2.2.2.2.1, ()))))))).bind fun r4 =>
      (dual_Queue_judge N ((0, ((0, (0, (0, (0, 0)))), (r4, ()))), ((x.2.1.1, ((x.2.1.2.1.1, (x.2.1.2.1.2.1, (x.2.1.2.1.2.2.1, ((IntKind.wrap .i64 (x.2.1.2.1.2.2.2.1 - 1)), (x.2.1.2.1.2.2.2.2.1, (x.2.1.2.1.2.2.2.2.2.1, (x.2.1.2.1.2.2.2.2.2.2.1, ((IntKind.wrap .i64 (x.2.1.2.1.2.2.2.2.2.2.2.1 - 0)), x.2.1.2.1.2.2.2.2.2.2.2.2)))))))), (x.2.1.2.2.1, (x.2.1.2.2.2.1, (x.2.1.2.2.2.2.1, (x.2.1.2.2.2.2.2.1, ())))))), ((x.2.2.1.1, (x.2.2.1.2.1, (x.2.2.1.2.2.1, ()))), ((x.2.2.2.1.1, (x.2.2.2.1.2.1, (x.2.2.2.1.2.2.1, ()))), ((x.2.2.2.2.1.1, ()), ((), ((x.2.2.2.2.2.2.1.1, ()), (x.2.2.2.2.2.2.2.2.2.1, (x.2.2.2.2.2.2.2.2.2.2.1, (x.2.2.2.2.2.2.2.2.2.2.2.1, ()))))))))))).bind fun r5 =>
      bif r5.1.2.1 then
        bif (decide ((((x.2.2.2.2.2.2.2.2.1).length + 1) * 40) ≤ 140737488355328)) then
          (dual_Queue_served N ((0, (0, ())), ((r5.2.1.1, ((r5.2.1.2.1.1, (r5.2.1.2.1.2.1, ((IntKind.wrap .i64 (r5.2.1.2.1.2.2.1 + 1)), (r5.2.1.2.1.2.2.2.1, (r5.2.1.2.1.2.2.2.2.1, (r5.2.1.2.1.2.2.2.2.2.1, ((IntKind.wrap .i64 (r5.2.1.2.1.2.2.2.2.2.2.1 + 0)), r5.2.1.2.1.2.2.2.2.2.2.2))))))), (r5.2.1.2.2.1, (r5.2.1.2.2.2.1, (r5.2.1.2.2.2.2.1, (r5.2.1.2.2.2.2.2.1, ())))))), ((r5.2.2.1.1, (r5.2.2.1.2.1, (r5.2.2.1.2.2.1, ()))), ((r5.2.2.2.1.1, (r5.2.2.2.1.2.1, (r5.2.2.2.1.2.2.1, ()))), ((r5.2.2.2.2.1.1, ()), ((), ((r5.2.2.2.2.2.2.1.1, ()), (r5.2.2.2.2.2.2.2.1, (r5.2.2.2.2.2.2.2.2.1, (r5.2.2.2.2.2.2.2.2.2.1, ()))))))))))).bind fun r6 =>
          F ((x.1.1, ()), ((r6.2.1.1, (r6.2.1.2.1, (r6.2.1.2.2.1, (r6.2.1.2.2.2.1, (r6.2.1.2.2.2.2.1, (r6.2.1.2.2.2.2.2.1, ())))))), ((r6.2.2.1.1, (r6.2.2.1.2.1, (r6.2.2.1.2.2.1, ()))), ((r6.2.2.2.1.1, (r6.2.2.2.1.2.1, (r6.2.2.2.1.2.2.1, ()))), ((r6.2.2.2.2.1.1, ()), ((), ((r6.2.2.2.2.2.2.1.1, ()), ((x.2.2.2.2.2.2.2.1.1, ()), ((x.2.2.2.2.2.2.2.2.1 ++ ([(0, (0, (0, (0, 0))))] : List Ti5)), (r6.2.2.2.2.2.2.2.1, (r6.2.2.2.2.2.2.2.2.1, (r6.2.2.2.2.2.2.2.2.2.1, ()))))))))))))
        else
          none
      else
        bif (! (r5.1.1 == 0)) then
          (dual_Queue_served N ((0, (0, ())), ((r5.2.1.1, ((r5.2.1.2.1.1, ((IntKind.wrap .i64 (r5.2.1.2.1.2.1 + 1)), (r5.2.1.2.1.2.2.1, (r5.2.1.2.1.2.2.2.1, (r5.2.1.2.1.2.2.2.2.1, ((IntKind.wrap .i64 (r5.2.1.2.1.2.2.2.2.2.1 + 0)), (r5.2.1.2.1.2.2.2.2.2.2.1, (r5.2.1.2.1.2.2.2.2.2.2.2.1, (IntKind.wrap .i64 (r5.2.1.2.1.2.2.2.2.2.2.2.2 + 1)))))))))), (r5.2.1.2.2.1, (r5.2.1.2.2.2.1, (r5.2.1.2.2.2.2.1, (r5.2.1.2.2.2.2.2.1, ())))))), ((r5.2.2.1.1, (r5.2.2.1.2.1, (r5.2.2.1.2.2.1, ()))), ((r5.2.2.2.1.1, (r5.2.2.2.1.2.1, (r5.2.2.2.1.2.2.1, ()))), ((r5.2.2.2.2.1.1, ()), ((), ((r5.2.2.2.2.2.2.1.1, ()), (r5.2.2.2.2.2.2.2.1, (r5.2.2.2.2.2.2.2.2.1, (r5.2.2.2.2.2.2.2.2.2.1, ()))))))))))).bind fun r7 =>
          some (.inl ((true, ()), ((r7.2.1.1, (r7.2.1.2.1, (r7.2.1.2.2.1, (r7.2.1.2.2.2.1, (r7.2.1.2.2.2.2.1, (r7.2.1.2.2.2.2.2.1, ())))))), ((r7.2.2.1.1, (r7.2.2.1.2.1, (r7.2.2.1.2.2.1, ()))), ((r7.2.2.2.1.1, (r7.2.2.2.1.2.1, (r7.2.2.2.1.2.2.1, ()))), ((r7.2.2.2.2.1.1, ()), ((), ((r7.2.2.2.2.2.2.1.1, ()), (((0, (0, (0, (r5.1.1, 0)))), ()), (x.2.2.2.2.2.2.2.2.1, (r7.2.2.2.2.2.2.2.1, (r7.2.2.2.2.2.2.2.2.1, (r7.2.2.2.2.2.2.2.2.2.1, ())))))))))))))
        else
          (dual_Queue_served N ((0, (0, ())), ((r5.2.1.1, ((r5.2.1.2.1.1, ((IntKind.wrap .i64 (r5.2.1.2.1.2.1 + 1)), (r5.2.1.2.1.2.2.1, (r5.2.1.2.1.2.2.2.1, (r5.2.1.2.1.2.2.2.2.1, ((IntKind.wrap .i64 (r5.2.1.2.1.2.2.2.2.2.1 + 0)), r5.2.1.2.1.2.2.2.2.2.2)))))), (r5.2.1.2.2.1, (r5.2.1.2.2.2.1, (r5.2.1.2.2.2.2.1, (r5.2.1.2.2.2.2.2.1, ())))))), ((r5.2.2.1.1, (r5.2.2.1.2.1, (r5.2.2.1.2.2.1, ()))), ((r5.2.2.2.1.1, (r5.2.2.2.1.2.1, (r5.2.2.2.1.2.2.1, ()))), ((r5.2.2.2.2.1.1, ()), ((), ((r5.2.2.2.2.2.2.1.1, ()), (r5.2.2.2.2.2.2.2.1, (r5.2.2.2.2.2.2.2.2.1, (r5.2.2.2.2.2.2.2.2.2.1, ()))))))))))).bind fun r8 =>
          some (.inl ((true, ()), ((r8.2.1.1, (r8.2.1.2.1, (r8.2.1.2.2.1, (r8.2.1.2.2.2.1, (r8.2.1.2.2.2.2.1, (r8.2.1.2.2.2.2.2.1, ())))))), ((r8.2.2.1.1, (r8.2.2.1.2.1, (r8.2.2.1.2.2.1, ()))), ((r8.2.2.2.1.1, (r8.2.2.2.1.2.1, (r8.2.2.2.1.2.2.1, ()))), ((r8.2.2.2.2.1.1, ()), ((), ((r8.2.2.2.2.2.2.1.1, ()), (((0, (0, (0, (r5.1.1, 0)))), ()), (x.2.2.2.2.2.2.2.2.1, (r8.2.2.2.2.2.2.2.1, (r8.2.2.2.2.2.2.2.2.1, (r8.2.2.2.2.2.2.2.2.2.1, ())))))))))))))
    else
      bif (decide (r3 = 1)) then
        (dual_Queue_delay N ((1, (x.1.1, ())), ((x.2.1.1, (x.2.1.2.1, (x.2.1.2.2.1, (x.2.1.2.2.2.1, (x.2.1.2.2.2.2.1, (x.2.1.2.2.2.2.2.1, ())))))), ((x.2.2.1.1, (x.2.2.1.2.1, (x.2.2.1.2.2.1, ()))), ((x.2.2.2.1.1, (x.2.2.2.1.2.1, (x.2.2.2.1.2.2.1, ()))), (x.2.2.2.2.2.2.2.2.2.1, (x.2.2.2.2.2.2.2.2.2.2.1, ()))))))).bind fun r9 =>
        (ring_Ring_api_Packet_Pop N ((), ((x.2.2.1.1, (x.2.2.1.2.1, (x.2.2.1.2.2.1, ()))), (x.2.2.2.2.2.2.2.2.2.1, ())))).bind fun r10 =>
        (dual_Queue_judge N ((1, (r10.1.1, (r9, ()))), ((x.2.1.1, (x.2.1.2.1, ((x.2.1.2.2.1.1, (x.2.1.2.2.1.2.1, (x.2.1.2.2.1.2.2.1, ((IntKind.wrap .i64 (x.2.1.2.2.1.2.2.2.1 - 1)), (x.2.1.2.2.1.2.2.2.2.1, (x.2.1.2.2.1.2.2.2.2.2.1, (x.2.1.2.2.1.2.2.2.2.2.2.1, ((IntKind.wrap .i64 (x.2.1.2.2.1.2.2.2.2.2.2.2.1 - r10.1.1.2.2.1)), x.2.1.2.2.1.2.2.2.2.2.2.2.2)))))))), (x.2.1.2.2.2.1, (x.2.1.2.2.2.2.1, (x.2.1.2.2.2.2.2.1, ())))))), ((r10.2.1.1, (r10.2.1.2.1, (r10.2.1.2.2.1, ()))), ((x.2.2.2.1.1, (x.2.2.2.1.2.1, (x.2.2.2.1.2.2.1, ()))), ((x.2.2.2.2.1.1, ()), ((), ((x.2.2.2.2.2.2.1.1, ()), (r10.2.2.1, (x.2.2.2.2.2.2.2.2.2.2.1, (x.2.2.2.2.2.2.2.2.2.2.2.1, ()))))))))))).bind fun r11 =>
        bif r11.1.2.1 then
          bif (decide ((((x.2.2.2.2.2.2.2.2.1).length + 1) * 40) ≤ 140737488355328)) then
            (dual_Queue_served N ((1, (0, ())), ((r11.2.1.1, (r11.2.1.2.1, ((r11.2.1.2.2.1.1, (r11.2.1.2.2.1.2.1, ((IntKind.wrap .i64 (r11.2.1.2.2.1.2.2.1 + 1)), (r11.2.1.2.2.1.2.2.2.1, (r11.2.1.2.2.1.2.2.2.2.1, (r11.2.1.2.2.1.2.2.2.2.2.1, ((IntKind.wrap .i64 (r11.2.1.2.2.1.2.2.2.2.2.2.1 + r10.1.1.2.2.1)), r11.2.1.2.2.1.2.2.2.2.2.2.2))))))), (r11.2.1.2.2.2.1, (r11.2.1.2.2.2.2.1, (r11.2.1.2.2.2.2.2.1, ())))))), ((r11.2.2.1.1, (r11.2.2.1.2.1, (r11.2.2.1.2.2.1, ()))), ((r11.2.2.2.1.1, (r11.2.2.2.1.2.1, (r11.2.2.2.1.2.2.1, ()))), ((r11.2.2.2.2.1.1, ()), ((), ((r11.2.2.2.2.2.2.1.1, ()), (r11.2.2.2.2.2.2.2.1, (r11.2.2.2.2.2.2.2.2.1, (r11.2.2.2.2.2.2.2.2.2.1, ()))))))))))).bind fun r12 =>
            F ((x.1.1, ()), ((r12.2.1.1, (r12.2.1.2.1, (r12.2.1.2.2.1, (r12.2.1.2.2.2.1, (r12.2.1.2.2.2.2.1, (r12.2.1.2.2.2.2.2.1, ())))))), ((r12.2.2.1.1, (r12.2.2.1.2.1, (r12.2.2.1.2.2.1, ()))), ((r12.2.2.2.1.1, (r12.2.2.2.1.2.1, (r12.2.2.2.1.2.2.1, ()))), ((r12.2.2.2.2.1.1, ()), ((), ((r12.2.2.2.2.2.2.1.1, ()), ((x.2.2.2.2.2.2.2.1.1, ()), ((x.2.2.2.2.2.2.2.2.1 ++ ([r10.1.1] : List Ti5)), (r12.2.2.2.2.2.2.2.1, (r12.2.2.2.2.2.2.2.2.1, (r12.2.2.2.2.2.2.2.2.2.1, ()))))))))))))
          else
            none
        else
          bif (! (r11.1.1 == r10.1.1.2.2.2.1)) then
            (dual_Queue_served N ((1, (r10.1.1.2.2.1, ())), ((r11.2.1.1, (r11.2.1.2.1, ((r11.2.1.2.2.1.1, ((IntKind.wrap .i64 (r11.2.1.2.2.1.2.1 + 1)), (r11.2.1.2.2.1.2.2.1, (r11.2.1.2.2.1.2.2.2.1, (r11.2.1.2.2.1.2.2.2.2.1, ((IntKind.wrap .i64 (r11.2.1.2.2.1.2.2.2.2.2.1 + r10.1.1.2.2.1)), (r11.2.1.2.2.1.2.2.2.2.2.2.1, (r11.2.1.2.2.1.2.2.2.2.2.2.2.1, (IntKind.wrap .i64 (r11.2.1.2.2.1.2.2.2.2.2.2.2.2 + 1)))))))))), (r11.2.1.2.2.2.1, (r11.2.1.2.2.2.2.1, (r11.2.1.2.2.2.2.2.1, ())))))), ((r11.2.2.1.1, (r11.2.2.1.2.1, (r11.2.2.1.2.2.1, ()))), ((r11.2.2.2.1.1, (r11.2.2.2.1.2.1, (r11.2.2.2.1.2.2.1, ()))), ((r11.2.2.2.2.1.1, ()), ((), ((r11.2.2.2.2.2.2.1.1, ()), (r11.2.2.2.2.2.2.2.1, (r11.2.2.2.2.2.2.2.2.1, (r11.2.2.2.2.2.2.2.2.2.1, ()))))))))))).bind fun r13 =>
            some (.inl ((true, ()), ((r13.2.1.1, (r13.2.1.2.1, (r13.2.1.2.2.1, (r13.2.1.2.2.2.1, (r13.2.1.2.2.2.2.1, (r13.2.1.2.2.2.2.2.1, ())))))), ((r13.2.2.1.1, (r13.2.2.1.2.1, (r13.2.2.1.2.2.1, ()))), ((r13.2.2.2.1.1, (r13.2.2.2.1.2.1, (r13.2.2.2.1.2.2.1, ()))), ((r13.2.2.2.2.1.1, ()), ((), ((r13.2.2.2.2.2.2.1.1, ()), (((r10.1.1.1, (r10.1.1.2.1, (r10.1.1.2.2.1, (r11.1.1, r10.1.1.2.2.2.2)))), ()), (x.2.2.2.2.2.2.2.2.1, (r13.2.2.2.2.2.2.2.1, (r13.2.2.2.2.2.2.2.2.1, (r13.2.2.2.2.2.2.2.2.2.1, ())))))))))))))
          else
            (dual_Queue_served N ((1, (r10.1.1.2.2.1, ())), ((r11.2.1.1, (r11.2.1.2.1, ((r11.2.1.2.2.1.1, ((IntKind.wrap .i64 (r11.2.1.2.2.1.2.1 + 1)), (r11.2.1.2.2.1.2.2.1, (r11.2.1.2.2.1.2.2.2.1, (r11.2.1.2.2.1.2.2.2.2.1, ((IntKind.wrap .i64 (r11.2.1.2.2.1.2.2.2.2.2.1 + r10.1.1.2.2.1)), r11.2.1.2.2.1.2.2.2.2.2.2)))))), (r11.2.1.2.2.2.1, (r11.2.1.2.2.2.2.1, (r11.2.1.2.2.2.2.2.1, ())))))), ((r11.2.2.1.1, (r11.2.2.1.2.1, (r11.2.2.1.2.2.1, ()))), ((r11.2.2.2.1.1, (r11.2.2.2.1.2.1, (r11.2.2.2.1.2.2.1, ()))), ((r11.2.2.2.2.1.1, ()), ((), ((r11.2.2.2.2.2.2.1.1, ()), (r11.2.2.2.2.2.2.2.1, (r11.2.2.2.2.2.2.2.2.1, (r11.2.2.2.2.2.2.2.2.2.1, ()))))))))))).bind fun r14 =>
            some (.inl ((true, ()), ((r14.2.1.1, (r14.2.1.2.1, (r14.2.1.2.2.1, (r14.2.1.2.2.2.1, (r14.2.1.2.2.2.2.1, (r14.2.1.2.2.2.2.2.1, ())))))), ((r14.2.2.1.1, (r14.2.2.1.2.1, (r14.2.2.1.2.2.1, ()))), ((r14.2.2.2.1.1, (r14.2.2.2.1.2.1, (r14.2.2.2.1.2.2.1, ()))), ((r14.2.2.2.2.1.1, ()), ((), ((r14.2.2.2.2.2.2.1.1, ()), (((r10.1.1.1, (r10.1.1.2.1, (r10.1.1.2.2.1, (r11.1.1, r10.1.1.2.2.2.2)))), ()), (x.2.2.2.2.2.2.2.2.1, (r14.2.2.2.2.2.2.2.1, (r14.2.2.2.2.2.2.2.2.1, (r14.2.2.2.2.2.2.2.2.2.1, ())))))))))))))
      else
        bif (decide (r3 = 2)) then
          (dual_Queue_delay N ((2, (x.1.1, ())), ((x.2.1.1, (x.2.1.2.1, (x.2.1.2.2.1, (x.2.1.2.2.2.1, (x.2.1.2.2.2.2.1, (x.2.1.2.2.2.2.2.1, ())))))), ((x.2.2.1.1, (x.2.2.1.2.1, (x.2.2.1.2.2.1, ()))), ((x.2.2.2.1.1, (x.2.2.2.1.2.1, (x.2.2.2.1.2.2.1, ()))), (x.2.2.2.2.2.2.2.2.2.1, (x.2.2.2.2.2.2.2.2.2.2.1, ()))))))).bind fun r15 =>
          (ring_Ring_api_Packet_Pop N ((), ((x.2.2.2.1.1, (x.2.2.2.1.2.1, (x.2.2.2.1.2.2.1, ()))), (x.2.2.2.2.2.2.2.2.2.2.1, ())))).bind fun r16 =>
          (dual_Queue_judge N ((2, (r16.1.1, (r15, ()))), ((x.2.1.1, (x.2.1.2.1, (x.2.1.2.2.1, ((x.2.1.2.2.2.1.1, (x.2.1.2.2.2.1.2.1, (x.2.1.2.2.2.1.2.2.1, ((IntKind.wrap .i64 (x.2.1.2.2.2.1.2.2.2.1 - 1)), (x.2.1.2.2.2.1.2.2.2.2.1, (x.2.1.2.2.2.1.2.2.2.2.2.1, (x.2.1.2.2.2.1.2.2.2.2.2.2.1, ((IntKind.wrap .i64 (x.2.1.2.2.2.1.2.2.2.2.2.2.2.1 - r16.1.1.2.2.1)), x.2.1.2.2.2.1.2.2.2.2.2.2.2.2)))))))), (x.2.1.2.2.2.2.1, (x.2.1.2.2.2.2.2.1, ())))))), ((x.2.2.1.1, (x.2.2.1.2.1, (x.2.2.1.2.2.1, ()))), ((r16.2.1.1, (r16.2.1.2.1, (r16.2.1.2.2.1, ()))), ((x.2.2.2.2.1.1, ()), ((), ((x.2.2.2.2.2.2.1.1, ()), (x.2.2.2.2.2.2.2.2.2.1, (r16.2.2.1, (x.2.2.2.2.2.2.2.2.2.2.2.1, ()))))))))))).bind fun r17 =>
          bif r17.1.2.1 then
            bif (decide ((((x.2.2.2.2.2.2.2.2.1).length + 1) * 40) ≤ 140737488355328)) then
              (dual_Queue_served N ((2, (0, ())), ((r17.2.1.1, (r17.2.1.2.1, (r17.2.1.2.2.1, ((r17.2.1.2.2.2.1.1, (r17.2.1.2.2.2.1.2.1, ((IntKind.wrap .i64 (r17.2.1.2.2.2.1.2.2.1 + 1)), (r17.2.1.2.2.2.1.2.2.2.1, (r17.2.1.2.2.2.1.2.2.2.2.1, (r17.2.1.2.2.2.1.2.2.2.2.2.1, ((IntKind.wrap .i64 (r17.2.1.2.2.2.1.2.2.2.2.2.2.1 + r16.1.1.2.2.1)), r17.2.1.2.2.2.1.2.2.2.2.2.2.2))))))), (r17.2.1.2.2.2.2.1, (r17.2.1.2.2.2.2.2.1, ())))))), ((r17.2.2.1.1, (r17.2.2.1.2.1, (r17.2.2.1.2.2.1, ()))), ((r17.2.2.2.1.1, (r17.2.2.2.1.2.1, (r17.2.2.2.1.2.2.1, ()))), ((r17.2.2.2.2.1.1, ()), ((), ((r17.2.2.2.2.2.2.1.1, ()), (r17.2.2.2.2.2.2.2.1, (r17.2.2.2.2.2.2.2.2.1, (r17.2.2.2.2.2.2.2.2.2.1, ()))))))))))).bind fun r18 =>
              F ((x.1.1, ()), ((r18.2.1.1, (r18.2.1.2.1, (r18.2.1.2.2.1, (r18.2.1.2.2.2.1, (r18.2.1.2.2.2.2.1, (r18.2.1.2.2.2.2.2.1, ())))))), ((r18.2.2.1.1, (r18.2.2.1.2.1, (r18.2.2.1.2.2.1, ()))), ((r18.2.2.2.1.1, (r18.2.2.2.1.2.1, (r18.2.2.2.1.2.2.1, ()))), ((r18.2.2.2.2.1.1, ()), ((), ((r18.2.2.2.2.2.2.1.1, ()), ((x.2.2.2.2.2.2.2.1.1, ()), ((x.2.2.2.2.2.2.2.2.1 ++ ([r16.1.1] : List Ti5)), (r18.2.2.2.2.2.2.2.1, (r18.2.2.2.2.2.2.2.2.1, (r18.2.2.2.2.2.2.2.2.2.1, ()))))))))))))
            else
              none
          else
            bif (! (r17.1.1 == r16.1.1.2.2.2.1)) then
              (dual_Queue_served N ((2, (r16.1.1.2.2.1, ())), ((r17.2.1.1, (r17.2.1.2.1, (r17.2.1.2.2.1, ((r17.2.1.2.2.2.1.1, ((IntKind.wrap .i64 (r17.2.1.2.2.2.1.2.1 + 1)), (r17.2.1.2.2.2.1.2.2.1, (r17.2.1.2.2.2.1.2.2.2.1, (r17.2.1.2.2.2.1.2.2.2.2.1, ((IntKind.wrap .i64 (r17.2.1.2.2.2.1.2.2.2.2.2.1 + r16.1.1.2.2.1)), (r17.2.1.2.2.2.1.2.2.2.2.2.2.1, (r17.2.1.2.2.2.1.2.2.2.2.2.2.2.1, (IntKind.wrap .i64 (r17.2.1.2.2.2.1.2.2.2.2.2.2.2.2 + 1)))))))))), (r17.2.1.2.2.2.2.1, (r17.2.1.2.2.2.2.2.1, ())))))), ((r17.2.2.1.1, (r17.2.2.1.2.1, (r17.2.2.1.2.2.1, ()))), ((r17.2.2.2.1.1, (r17.2.2.2.1.2.1, (r17.2.2.2.1.2.2.1, ()))), ((r17.2.2.2.2.1.1, ()), ((), ((r17.2.2.2.2.2.2.1.1, ()), (r17.2.2.2.2.2.2.2.1, (r17.2.2.2.2.2.2.2.2.1, (r17.2.2.2.2.2.2.2.2.2.1, ()))))))))))).bind fun r19 =>
              some (.inl ((true, ()), ((r19.2.1.1, (r19.2.1.2.1, (r19.2.1.2.2.1, (r19.2.1.2.2.2.1, (r19.2.1.2.2.2.2.1, (r19.2.1.2.2.2.2.2.1, ())))))), ((r19.2.2.1.1, (r19.2.2.1.2.1, (r19.2.2.1.2.2.1, ()))), ((r19.2.2.2.1.1, (r19.2.2.2.1.2.1, (r19.2.2.2.1.2.2.1, ()))), ((r19.2.2.2.2.1.1, ()), ((), ((r19.2.2.2.2.2.2.1.1, ()), (((r16.1.1.1, (r16.1.1.2.1, (r16.1.1.2.2.1, (r17.1.1, r16.1.1.2.2.2.2)))), ()), (x.2.2.2.2.2.2.2.2.1, (r19.2.2.2.2.2.2.2.1, (r19.2.2.2.2.2.2.2.2.1, (r19.2.2.2.2.2.2.2.2.2.1, ())))))))))))))
            else
              (dual_Queue_served N ((2, (r16.1.1.2.2.1, ())), ((r17.2.1.1, (r17.2.1.2.1, (r17.2.1.2.2.1, ((r17.2.1.2.2.2.1.1, ((IntKind.wrap .i64 (r17.2.1.2.2.2.1.2.1 + 1)), (r17.2.1.2.2.2.1.2.2.1, (r17.2.1.2.2.2.1.2.2.2.1, (r17.2.1.2.2.2.1.2.2.2.2.1, ((IntKind.wrap .i64 (r17.2.1.2.2.2.1.2.2.2.2.2.1 + r16.1.1.2.2.1)), r17.2.1.2.2.2.1.2.2.2.2.2.2)))))), (r17.2.1.2.2.2.2.1, (r17.2.1.2.2.2.2.2.1, ())))))), ((r17.2.2.1.1, (r17.2.2.1.2.1, (r17.2.2.1.2.2.1, ()))), ((r17.2.2.2.1.1, (r17.2.2.2.1.2.1, (r17.2.2.2.1.2.2.1, ()))), ((r17.2.2.2.2.1.1, ()), ((), ((r17.2.2.2.2.2.2.1.1, ()), (r17.2.2.2.2.2.2.2.1, (r17.2.2.2.2.2.2.2.2.1, (r17.2.2.2.2.2.2.2.2.2.1, ()))))))))))).bind fun r20 =>
              some (.inl ((true, ()), ((r20.2.1.1, (r20.2.1.2.1, (r20.2.1.2.2.1, (r20.2.1.2.2.2.1, (r20.2.1.2.2.2.2.1, (r20.2.1.2.2.2.2.2.1, ())))))), ((r20.2.2.1.1, (r20.2.2.1.2.1, (r20.2.2.1.2.2.1, ()))), ((r20.2.2.2.1.1, (r20.2.2.2.1.2.1, (r20.2.2.2.1.2.2.1, ()))), ((r20.2.2.2.2.1.1, ()), ((), ((r20.2.2.2.2.2.2.1.1, ()), (((r16.1.1.1, (r16.1.1.2.1, (r16.1.1.2.2.1, (r17.1.1, r16.1.1.2.2.2.2)))), ()), (x.2.2.2.2.2.2.2.2.1, (r20.2.2.2.2.2.2.2.1, (r20.2.2.2.2.2.2.2.2.1, (r20.2.2.2.2.2.2.2.2.2.1, ())))))))))))))
        else
          none
  else
    some (.inr ((), ((x.2.1.1, (x.2.1.2.1, (x.2.1.2.2.1, (x.2.1.2.2.2.1, (x.2.1.2.2.2.2.1, (x.2.1.2.2.2.2.2.1, ())))))), ((x.2.2.1.1, (x.2.2.1.2.1, (x.2.2.1.2.2.1, ()))), ((x.2.2.2.1.1, (x.2.2.2.1.2.1, (x.2.2.2.1.2.2.1, ()))), ((x.2.2.2.2.1.1, ()), ((), ((x.2.2.2.2.2.2.1.1, ()), ((x.2.2.2.2.2.2.2.1.1, ()), (x.2.2.2.2.2.2.2.2.1, (x.2.2.2.2.2.2.2.2.2.1, (x.2.2.2.2.2.2.2.2.2.2.1, (x.2.2.2.2.2.2.2.2.2.2.2.1, ())))))))))))))

def dual_Queue_Take (N : Nat) (x : ((Int × Unit) × ((Ti8 × (Ti9 × (Ti9 × (Ti9 × ((Int × Int) × (Int × Unit)))))) × ((Int × (Int × (Int × Unit))) × ((Int × (Int × (Int × Unit))) × ((Int × Unit) × (Unit × ((Int × Unit) × ((List Ti5) × ((List Ti5) × ((List Int) × Unit))))))))))) : Option ((Ti5 × (Bool × Unit)) × ((Ti8 × (Ti9 × (Ti9 × (Ti9 × ((Int × Int) × (Int × Unit)))))) × ((Int × (Int × (Int × Unit))) × ((Int × (Int × (Int × Unit))) × ((Int × Unit) × (Unit × ((Int × Unit) × ((List Ti5) × ((List Ti5) × ((List Int) × ((List Ti5) × Unit))))))))))) :=
  (iter (dual_Queue_Take_L2 N) N ((x.1.1, ()), ((x.2.1.1, (x.2.1.2.1, (x.2.1.2.2.1, (x.2.1.2.2.2.1, (x.2.1.2.2.2.2.1, (x.2.1.2.2.2.2.2.1, ())))))), ((x.2.2.1.1, (x.2.2.1.2.1, (x.2.2.1.2.2.1, ()))), ((x.2.2.2.1.1, (x.2.2.2.1.2.1, (x.2.2.2.1.2.2.1, ()))), ((x.2.2.2.2.1.1, ()), ((), ((x.2.2.2.2.2.2.1.1, ()), (((0, (0, (0, (0, 0)))), ()), (([] : List Ti5), (x.2.2.2.2.2.2.2.1, (x.2.2.2.2.2.2.2.2.1, (x.2.2.2.2.2.2.2.2.2.1, ()))))))))))))).bind fun r0 =>
  match r0 with
  | .inl r1 =>
    some ((r1.2.2.2.2.2.2.2.1.1, (r1.1.1, ())), ((r1.2.1.1, (r1.2.1.2.1, (r1.2.1.2.2.1, (r1.2.1.2.2.2.1, (r1.2.1.2.2.2.2.1, (r1.2.1.2.2.2.2.2.1, ())))))), ((r1.2.2.1.1, (r1.2.2.1.2.1, (r1.2.2.1.2.2.1, ()))), ((r1.2.2.2.1.1, (r1.2.2.2.1.2.1, (r1.2.2.2.1.2.2.1, ()))), ((r1.2.2.2.2.1.1, ()), ((), ((r1.2.2.2.2.2.2.1.1, ()), (r1.2.2.2.2.2.2.2.2.2.1, (r1.2.2.2.2.2.2.2.2.2.2.1, (r1.2.2.2.2.2.2.2.2.2.2.2.1, (r1.2.2.2.2.2.2.2.2.1, ())))))))))))
  | .inr r2 =>
    some (((0, (0, (0, (0, 0)))), (false, ())), ((r2.2.1.1, (r2.2.1.2.1, (r2.2.1.2.2.1, (r2.2.1.2.2.2.1, (r2.2.1.2.2.2.2.1, (r2.2.1.2.2.2.2.2.1, ())))))), ((r2.2.2.1.1, (r2.2.2.1.2.1, (r2.2.2.1.2.2.1, ()))), ((r2.2.2.2.1.1, (r2.2.2.2.1.2.1, (r2.2.2.2.1.2.2.1, ()))), ((r2.2.2.2.2.1.1, ()), ((), ((r2.2.2.2.2.2.2.1.1, ()), (r2.2.2.2.2.2.2.2.2.2.1, (r2.2.2.2.2.2.2.2.2.2.2.1, (r2.2.2.2.2.2.2.2.2.2.2.2.1, (r2.2.2.2.2.2.2.2.2.1, ())))))))))))

def link_within (N : Nat) (a0 : (Int × (Int × Int))) : Option (Int × (Int × Int)) :=
  (sat_Clamp N a0.1 1 1099511627776).bind fun r0 =>
  (sat_Clamp N a0.2.1 0 1152921504606846976).bind fun r1 =>
  (sat_Clamp N a0.2.2 0 1152921504606846976).bind fun r2 =>
  some (r0, (r1, r2))
def sat_Div (_N : Nat) (a0 : Int) (a1 : Int) : Option Int :=
  bif (a1 == 0) then
    some 0
  else bif ((a0 == (-9223372036854775808)) == true) then
    bif (a1 == (-1)) then
      some 9223372036854775807
    else bif (!(decide (a1 = 0))) then
      bif (!(decide (a1 = 0))) then
        bif ((!((Int.tmod a0 a1) == 0)) == true) then
          bif (!((decide (a0 < 0)) == (decide (a1 < 0)))) then
            some (IntKind.wrap .i64 ((IntKind.wrap .i64 (Int.tdiv a0 a1)) - 1))
          else some (IntKind.wrap .i64 (Int.tdiv a0 a1))
        else some (IntKind.wrap .i64 (Int.tdiv a0 a1))
      else none
    else none
  else bif (!(decide (a1 = 0))) then
    bif (!(decide (a1 = 0))) then
      bif ((!((Int.tmod a0 a1) == 0)) == true) then
        bif (!((decide (a0 < 0)) == (decide (a1 < 0)))) then
          some (IntKind.wrap .i64 ((IntKind.wrap .i64 (Int.tdiv a0 a1)) - 1))
        else some (IntKind.wrap .i64 (Int.tdiv a0 a1))
      else some (IntKind.wrap .i64 (Int.tdiv a0 a1))
    else none
  else none

def link_Span (N : Nat) (a0 : Int) (a1 : Int) : Option Int :=
  (sat_Clamp N a0 1 65536).bind fun r0 =>
  (sat_Clamp N a1 1 1099511627776).bind fun r1 =>
  (sat_Div N (IntKind.wrap .i64 ((IntKind.wrap .i64 (0 - r0)) * 1000000)) r1).bind fun r2 =>
  some (IntKind.wrap .i64 (0 - r2))

def link_Take (N : Nat) (a0 : (Int × (Int × Int))) (a1 : Int) (a2 : Int) : Option ((Int × (Int × Int)) × (Int × Int)) :=
  (link_within N a0).bind fun r0 =>
  (sat_Clamp N a1 0 1125899906842624).bind fun r1 =>
  (link_Span N a2 r0.1).bind fun r2 =>
  (link_within N (r0.1, ((IntKind.wrap .i64 ((imx r1 r0.2.1) + r2)), (IntKind.wrap .i64 (r0.2.2 + r2))))).bind fun r3 =>
  some (r3, ((imx r1 r0.2.1), (IntKind.wrap .i64 ((imx r1 r0.2.1) + r2))))

def chain_place_take (N : Nat) (x : (Unit × ((Ti10 × ((Int × (Int × Int)) × (Int × Unit))) × ((Ti8 × (Ti9 × (Ti9 × (Ti9 × ((Int × Int) × (Int × Unit)))))) × ((Int × (Int × (Int × Unit))) × ((Int × (Int × (Int × Unit))) × ((Int × Unit) × (Unit × ((Int × Unit) × ((List Ti5) × ((List Ti5) × ((List Int) × ((List Ti5) × ((List Ti5) × Unit)))))))))))))) : Option (Unit × ((Ti10 × ((Int × (Int × Int)) × (Int × Unit))) × ((Ti8 × (Ti9 × (Ti9 × (Ti9 × ((Int × Int) × (Int × Unit)))))) × ((Int × (Int × (Int × Unit))) × ((Int × (Int × (Int × Unit))) × ((Int × Unit) × (Unit × ((Int × Unit) × ((List Ti5) × ((List Ti5) × ((List Int) × ((List Ti5) × ((List Ti5) × Unit))))))))))))) :=
  (dual_Queue_Take N ((x.2.1.2.1.2.1, ()), ((x.2.2.1.1, (x.2.2.1.2.1, (x.2.2.1.2.2.1, (x.2.2.1.2.2.2.1, (x.2.2.1.2.2.2.2.1, (x.2.2.1.2.2.2.2.2.1, ())))))), ((x.2.2.2.1.1, (x.2.2.2.1.2.1, (x.2.2.2.1.2.2.1, ()))), ((x.2.2.2.2.1.1, (x.2.2.2.2.1.2.1, (x.2.2.2.2.1.2.2.1, ()))), ((x.2.2.2.2.2.1.1, ()), ((), ((x.2.2.2.2.2.2.2.1.1, ()), (x.2.2.2.2.2.2.2.2.1, (x.2.2.2.2.2.2.2.2.2.1, (x.2.2.2.2.2.2.2.2.2.2.1, ()))))))))))).bind fun r0 =>
  bif (decide ((((x.2.2.2.2.2.2.2.2.2.2.2.2.1).length + (r0.2.2.2.2.2.2.2.2.2.2.1).length) * 40) ≤ 140737488355328)) then
    bif (!r0.1.2.1) then
      some ((), ((x.2.1.1, (x.2.1.2.1, (x.2.1.2.2.1, ()))), ((r0.2.1.1, (r0.2.1.2.1, (r0.2.1.2.2.1, (r0.2.1.2.2.2.1, (r0.2.1.2.2.2.2.1, (r0.2.1.2.2.2.2.2.1, ())))))), ((r0.2.2.1.1, (r0.2.2.1.2.1, (r0.2.2.1.2.2.1, ()))), ((r0.2.2.2.1.1, (r0.2.2.2.1.2.1, (r0.2.2.2.1.2.2.1, ()))), ((r0.2.2.2.2.1.1, ()), ((), ((r0.2.2.2.2.2.2.1.1, ()), (r0.2.2.2.2.2.2.2.1, (r0.2.2.2.2.2.2.2.2.1, (r0.2.2.2.2.2.2.2.2.2.1, (x.2.2.2.2.2.2.2.2.2.2.2.1, ((x.2.2.2.2.2.2.2.2.2.2.2.2.1 ++ r0.2.2.2.2.2.2.2.2.2.2.1), ())))))))))))))
    else
      (link_Take N x.2.1.2.1 x.2.1.2.1.2.1 r0.1.1.2.2.1).bind fun r1 =>
      bif (decide ((((x.2.2.2.2.2.2.2.2.2.2.2.1).length + 1) * 40) ≤ 140737488355328)) then
        some ((), ((x.2.1.1, (r1.1, (x.2.1.2.2.1, ()))), ((r0.2.1.1, (r0.2.1.2.1, (r0.2.1.2.2.1, (r0.2.1.2.2.2.1, (r0.2.1.2.2.2.2.1, (r0.2.1.2.2.2.2.2.1, ())))))), ((r0.2.2.1.1, (r0.2.2.1.2.1, (r0.2.2.1.2.2.1, ()))), ((r0.2.2.2.1.1, (r0.2.2.2.1.2.1, (r0.2.2.2.1.2.2.1, ()))), ((r0.2.2.2.2.1.1, ()), ((), ((r0.2.2.2.2.2.2.1.1, ()), (r0.2.2.2.2.2.2.2.1, (r0.2.2.2.2.2.2.2.2.1, (r0.2.2.2.2.2.2.2.2.2.1, ((x.2.2.2.2.2.2.2.2.2.2.2.1 ++ ([(r0.1.1.1, (r0.1.1.2.1, (r0.1.1.2.2.1, (r0.1.1.2.2.2.1, (imn (IntKind.wrap .i64 (r1.2.2 + x.2.1.1.2.1)) 67108864)))))] : List Ti5)), ((x.2.2.2.2.2.2.2.2.2.2.2.2.1 ++ r0.2.2.2.2.2.2.2.2.2.2.1), ())))))))))))))
      else
        none
  else
    none

def dual_Queue_Wait (N : Nat) (x : ((Int × Unit) × ((Ti8 × (Ti9 × (Ti9 × (Ti9 × ((Int × Int) × (Int × Unit)))))) × ((Int × (Int × (Int × Unit))) × ((Int × (Int × (Int × Unit))) × ((List Ti5) × ((List Ti5) × Unit))))))) : Option (Int × Int) :=
  (dual_Queue_delay N ((1, (x.1.1, ())), ((x.2.1.1, (x.2.1.2.1, (x.2.1.2.2.1, (x.2.1.2.2.2.1, (x.2.1.2.2.2.2.1, (x.2.1.2.2.2.2.2.1, ())))))), ((x.2.2.1.1, (x.2.2.1.2.1, (x.2.2.1.2.2.1, ()))), ((x.2.2.2.1.1, (x.2.2.2.1.2.1, (x.2.2.2.1.2.2.1, ()))), (x.2.2.2.2.1, (x.2.2.2.2.2.1, ()))))))).bind fun r0 =>
  (dual_Queue_delay N ((2, (x.1.1, ())), ((x.2.1.1, (x.2.1.2.1, (x.2.1.2.2.1, (x.2.1.2.2.2.1, (x.2.1.2.2.2.2.1, (x.2.1.2.2.2.2.2.1, ())))))), ((x.2.2.1.1, (x.2.2.1.2.1, (x.2.2.1.2.2.1, ()))), ((x.2.2.2.1.1, (x.2.2.2.1.2.1, (x.2.2.2.1.2.2.1, ()))), (x.2.2.2.2.1, (x.2.2.2.2.2.1, ()))))))).bind fun r1 =>
  some (r0, r1)

def pi_keep_1 (N : Nat) (x : ((Int × Unit) × ((Int × Unit) × Unit))) : Option Int :=
  (sat_Clamp N x.1.1 0 x.2.1.1).bind fun r0 =>
  some r0

def pi_Step (N : Nat) (a0 : (Int × Int)) (a1 : Int) (a2 : Ti8) : Option (Int × Int) :=
  (pi_keep_1 N ((a1, ()), ((67108864, ()), ()))).bind fun r0 =>
  (pi_keep_1 N ((a2.2.2.2.1, ()), ((17179869184, ()), ()))).bind fun r1 =>
  (pi_keep_1 N ((a2.2.1, ()), ((67108864, ()), ()))).bind fun r2 =>
  (pi_keep_1 N ((a2.2.2.2.2.1, ()), ((17179869184, ()), ()))).bind fun r3 =>
  (pi_keep_1 N ((a0.2, ()), ((67108864, ()), ()))).bind fun r4 =>
  (pi_keep_1 N ((a0.1, ()), ((4294967296, ()), ()))).bind fun r5 =>
  (sat_Div N (IntKind.wrap .i64 ((IntKind.wrap .i64 (r1 * (IntKind.wrap .i64 (r0 - r2)))) + (IntKind.wrap .i64 (r3 * (IntKind.wrap .i64 (r0 - r4)))))) 1000000).bind fun r6 =>
  (pi_keep_1 N (((IntKind.wrap .i64 (r5 + r6)), ()), ((4294967296, ()), ()))).bind fun r7 =>
  some (r7, r0)

def dual_Queue_Update (N : Nat) (x : ((Int × Unit) × ((Ti8 × (Ti9 × (Ti9 × (Ti9 × ((Int × Int) × (Int × Unit)))))) × ((Int × (Int × (Int × Unit))) × ((Int × (Int × (Int × Unit))) × ((Int × Unit) × (Unit × ((Int × Unit) × ((List Ti5) × ((List Ti5) × ((List Int) × Unit))))))))))) : Option (Unit × ((Ti8 × (Ti9 × (Ti9 × (Ti9 × ((Int × Int) × (Int × Unit)))))) × ((Int × (Int × (Int × Unit))) × ((Int × (Int × (Int × Unit))) × ((Int × Unit) × (Unit × ((Int × Unit) × ((List Ti5) × ((List Ti5) × ((List Int) × Unit)))))))))) :=
  (dual_Queue_Wait N ((x.1.1, ()), ((x.2.1.1, (x.2.1.2.1, (x.2.1.2.2.1, (x.2.1.2.2.2.1, (x.2.1.2.2.2.2.1, (x.2.1.2.2.2.2.2.1, ())))))), ((x.2.2.1.1, (x.2.2.1.2.1, (x.2.2.1.2.2.1, ()))), ((x.2.2.2.1.1, (x.2.2.2.1.2.1, (x.2.2.2.1.2.2.1, ()))), (x.2.2.2.2.2.2.2.1, (x.2.2.2.2.2.2.2.2.1, ()))))))).bind fun r0 =>
  (pi_Step N x.2.1.2.2.2.2.1 (imx r0.1 r0.2) x.2.1.1).bind fun r1 =>
  some ((), ((x.2.1.1, (x.2.1.2.1, (x.2.1.2.2.1, (x.2.1.2.2.2.1, (r1, (x.2.1.2.2.2.2.2.1, ())))))), ((x.2.2.1.1, (x.2.2.1.2.1, (x.2.2.1.2.2.1, ()))), ((x.2.2.2.1.1, (x.2.2.2.1.2.1, (x.2.2.2.1.2.2.1, ()))), ((x.2.2.2.2.1.1, ()), ((), ((x.2.2.2.2.2.2.1.1, ()), (x.2.2.2.2.2.2.2.1, (x.2.2.2.2.2.2.2.2.1, (x.2.2.2.2.2.2.2.2.2.1, ()))))))))))

def chain_place_step (N : Nat) (x : (Unit × ((Ti10 × ((Int × (Int × Int)) × (Int × Unit))) × ((Ti8 × (Ti9 × (Ti9 × (Ti9 × ((Int × Int) × (Int × Unit)))))) × ((Int × (Int × (Int × Unit))) × ((Int × (Int × (Int × Unit))) × ((Int × Unit) × (Unit × ((Int × Unit) × ((List Ti5) × ((List Ti5) × ((List Int) × ((List Ti5) × ((List Ti5) × Unit)))))))))))))) : Option (Unit × ((Ti10 × ((Int × (Int × Int)) × (Int × Unit))) × ((Ti8 × (Ti9 × (Ti9 × (Ti9 × ((Int × Int) × (Int × Unit)))))) × ((Int × (Int × (Int × Unit))) × ((Int × (Int × (Int × Unit))) × ((Int × Unit) × (Unit × ((Int × Unit) × ((List Ti5) × ((List Ti5) × ((List Int) × ((List Ti5) × ((List Ti5) × Unit))))))))))))) :=
  (dual_Queue_Update N ((x.2.1.2.2.1, ()), ((x.2.2.1.1, (x.2.2.1.2.1, (x.2.2.1.2.2.1, (x.2.2.1.2.2.2.1, (x.2.2.1.2.2.2.2.1, (x.2.2.1.2.2.2.2.2.1, ())))))), ((x.2.2.2.1.1, (x.2.2.2.1.2.1, (x.2.2.2.1.2.2.1, ()))), ((x.2.2.2.2.1.1, (x.2.2.2.2.1.2.1, (x.2.2.2.2.1.2.2.1, ()))), ((x.2.2.2.2.2.1.1, ()), ((), ((x.2.2.2.2.2.2.2.1.1, ()), (x.2.2.2.2.2.2.2.2.1, (x.2.2.2.2.2.2.2.2.2.1, (x.2.2.2.2.2.2.2.2.2.2.1, ()))))))))))).bind fun r0 =>
  some ((), ((x.2.1.1, (x.2.1.2.1, ((IntKind.wrap .i64 (x.2.1.2.2.1 + x.2.1.1.2.2.2.2.1)), ()))), ((r0.2.1.1, (r0.2.1.2.1, (r0.2.1.2.2.1, (r0.2.1.2.2.2.1, (r0.2.1.2.2.2.2.1, (r0.2.1.2.2.2.2.2.1, ())))))), ((r0.2.2.1.1, (r0.2.2.1.2.1, (r0.2.2.1.2.2.1, ()))), ((r0.2.2.2.1.1, (r0.2.2.2.1.2.1, (r0.2.2.2.1.2.2.1, ()))), ((r0.2.2.2.2.1.1, ()), ((), ((r0.2.2.2.2.2.2.1.1, ()), (r0.2.2.2.2.2.2.2.1, (r0.2.2.2.2.2.2.2.2.1, (r0.2.2.2.2.2.2.2.2.2.1, (x.2.2.2.2.2.2.2.2.2.2.2.1, (x.2.2.2.2.2.2.2.2.2.2.2.2.1, ())))))))))))))
def chain_place_upto_L2_j1 (N : Nat) (F : (Unit × ((Ti10 × ((Int × (Int × Int)) × (Int × Unit))) × ((Ti8 × (Ti9 × (Ti9 × (Ti9 × ((Int × Int) × (Int × Unit)))))) × ((Int × (Int × (Int × Unit))) × ((Int × (Int × (Int × Unit))) × ((Int × Unit) × (Unit × ((Int × Unit) × (Unit × ((Int × Unit) × ((List Ti5) × ((List Ti5) × ((List Ti5) × ((List Ti5) × ((List Int) × Unit))))))))))))))) → Option (Unit × ((Ti10 × ((Int × (Int × Int)) × (Int × Unit))) × ((Ti8 × (Ti9 × (Ti9 × (Ti9 × ((Int × Int) × (Int × Unit)))))) × ((Int × (Int × (Int × Unit))) × ((Int × (Int × (Int × Unit))) × ((Int × Unit) × (Unit × ((Int × Unit) × ((List Ti5) × ((List Ti5) × ((List Ti5) × ((List Ti5) × ((List Int) × Unit)))))))))))))) (x : (Unit × ((Ti10 × ((Int × (Int × Int)) × (Int × Unit))) × ((Ti8 × (Ti9 × (Ti9 × (Ti9 × ((Int × Int) × (Int × Unit)))))) × ((Int × (Int × (Int × Unit))) × ((Int × (Int × (Int × Unit))) × ((Int × Unit) × (Unit × ((Int × Unit) × (Unit × ((Int × Unit) × ((List Ti5) × ((List Ti5) × ((List Ti5) × ((List Ti5) × ((List Int) × Unit)))))))))))))))) : Option (Unit × ((Ti10 × ((Int × (Int × Int)) × (Int × Unit))) × ((Ti8 × (Ti9 × (Ti9 × (Ti9 × ((Int × Int) × (Int × Unit)))))) × ((Int × (Int × (Int × Unit))) × ((Int × (Int × (Int × Unit))) × ((Int × Unit) × (Unit × ((Int × Unit) × ((List Ti5) × ((List Ti5) × ((List Ti5) × ((List Ti5) × ((List Int) × Unit))))))))))))) :=
  bif (decide (x.2.1.2.2.1 ≤ x.2.2.2.2.2.2.2.2.2.1.1)) then
    (chain_place_step N ((), ((x.2.1.1, (x.2.1.2.1, (x.2.1.2.2.1, ()))), ((x.2.2.1.1, (x.2.2.1.2.1, (x.2.2.1.2.2.1, (x.2.2.1.2.2.2.1, (x.2.2.1.2.2.2.2.1, (x.2.2.1.2.2.2.2.2.1, ())))))), ((x.2.2.2.1.1, (x.2.2.2.1.2.1, (x.2.2.2.1.2.2.1, ()))), ((x.2.2.2.2.1.1, (x.2.2.2.2.1.2.1, (x.2.2.2.2.1.2.2.1, ()))), ((x.2.2.2.2.2.1.1, ()), ((), ((x.2.2.2.2.2.2.2.1.1, ()), (x.2.2.2.2.2.2.2.2.2.2.2.2.1, (x.2.2.2.2.2.2.2.2.2.2.2.2.2.1, (x.2.2.2.2.2.2.2.2.2.2.2.2.2.2.1, (x.2.2.2.2.2.2.2.2.2.2.1, (x.2.2.2.2.2.2.2.2.2.2.2.1, ())))))))))))))).bind fun r100 =>
    F ((), ((r100.2.1.1, (r100.2.1.2.1, (r100.2.1.2.2.1, ()))), ((r100.2.2.1.1, (r100.2.2.1.2.1, (r100.2.2.1.2.2.1, (r100.2.2.1.2.2.2.1, (r100.2.2.1.2.2.2.2.1, (r100.2.2.1.2.2.2.2.2.1, ())))))), ((r100.2.2.2.1.1, (r100.2.2.2.1.2.1, (r100.2.2.2.1.2.2.1, ()))), ((r100.2.2.2.2.1.1, (r100.2.2.2.2.1.2.1, (r100.2.2.2.2.1.2.2.1, ()))), ((r100.2.2.2.2.2.1.1, ()), ((), ((r100.2.2.2.2.2.2.2.1.1, ()), ((), ((x.2.2.2.2.2.2.2.2.2.1.1, ()), (r100.2.2.2.2.2.2.2.2.2.2.2.1, (r100.2.2.2.2.2.2.2.2.2.2.2.2.1, (r100.2.2.2.2.2.2.2.2.1, (r100.2.2.2.2.2.2.2.2.2.1, (r100.2.2.2.2.2.2.2.2.2.2.1, ())))))))))))))))
  else
    some ((), ((x.2.1.1, (x.2.1.2.1, (x.2.1.2.2.1, ()))), ((x.2.2.1.1, (x.2.2.1.2.1, (x.2.2.1.2.2.1, (x.2.2.1.2.2.2.1, (x.2.2.1.2.2.2.2.1, (x.2.2.1.2.2.2.2.2.1, ())))))), ((x.2.2.2.1.1, (x.2.2.2.1.2.1, (x.2.2.2.1.2.2.1, ()))), ((x.2.2.2.2.1.1, (x.2.2.2.2.1.2.1, (x.2.2.2.2.1.2.2.1, ()))), ((x.2.2.2.2.2.1.1, ()), ((), ((x.2.2.2.2.2.2.2.1.1, ()), (x.2.2.2.2.2.2.2.2.2.2.1, (x.2.2.2.2.2.2.2.2.2.2.2.1, (x.2.2.2.2.2.2.2.2.2.2.2.2.1, (x.2.2.2.2.2.2.2.2.2.2.2.2.2.1, (x.2.2.2.2.2.2.2.2.2.2.2.2.2.2.1, ())))))))))))))
def chain_place_upto_L2 (N : Nat) (F : (Unit × ((Ti10 × ((Int × (Int × Int)) × (Int × Unit))) × ((Ti8 × (Ti9 × (Ti9 × (Ti9 × ((Int × Int) × (Int × Unit)))))) × ((Int × (Int × (Int × Unit))) × ((Int × (Int × (Int × Unit))) × ((Int × Unit) × (Unit × ((Int × Unit) × (Unit × ((Int × Unit) × ((List Ti5) × ((List Ti5) × ((List Ti5) × ((List Ti5) × ((List Int) × Unit))))))))))))))) → Option (Unit × ((Ti10 × ((Int × (Int × Int)) × (Int × Unit))) × ((Ti8 × (Ti9 × (Ti9 × (Ti9 × ((Int × Int) × (Int × Unit)))))) × ((Int × (Int × (Int × Unit))) × ((Int × (Int × (Int × Unit))) × ((Int × Unit) × (Unit × ((Int × Unit) × ((List Ti5) × ((List Ti5) × ((List Ti5) × ((List Ti5) × ((List Int) × Unit)))))))))))))) (x : (Unit × ((Ti10 × ((Int × (Int × Int)) × (Int × Unit))) × ((Ti8 × (Ti9 × (Ti9 × (Ti9 × ((Int × Int) × (Int × Unit)))))) × ((Int × (Int × (Int × Unit))) × ((Int × (Int × (Int × Unit))) × ((Int × Unit) × (Unit × ((Int × Unit) × (Unit × ((Int × Unit) × ((List Ti5) × ((List Ti5) × ((List Ti5) × ((List Ti5) × ((List Int) × Unit)))))))))))))))) : Option (Unit × ((Ti10 × ((Int × (Int × Int)) × (Int × Unit))) × ((Ti8 × (Ti9 × (Ti9 × (Ti9 × ((Int × Int) × (Int × Unit)))))) × ((Int × (Int × (Int × Unit))) × ((Int × (Int × (Int × Unit))) × ((Int × Unit) × (Unit × ((Int × Unit) × ((List Ti5) × ((List Ti5) × ((List Ti5) × ((List Ti5) × ((List Int) × Unit))))))))))))) :=
  (dual_Queue_Waits N ((), ((x.2.2.1.1, (x.2.2.1.2.1, (x.2.2.1.2.2.1, (x.2.2.1.2.2.2.1, (x.2.2.1.2.2.2.2.1, (x.2.2.1.2.2.2.2.2.1, ())))))), ()))).bind fun r0 =>
  bif (r0 == true) then
    bif ((decide (x.2.1.2.1.2.1 ≤ x.2.2.2.2.2.2.2.2.2.1.1)) == true) then
      bif (decide (x.2.1.2.1.2.1 ≤ x.2.1.2.2.1)) then
        (chain_place_take N ((), ((x.2.1.1, (x.2.1.2.1, (x.2.1.2.2.1, ()))), ((x.2.2.1.1, (x.2.2.1.2.1, (x.2.2.1.2.2.1, (x.2.2.1.2.2.2.1, (x.2.2.1.2.2.2.2.1, (x.2.2.1.2.2.2.2.2.1, ())))))), ((x.2.2.2.1.1, (x.2.2.2.1.2.1, (x.2.2.2.1.2.2.1, ()))), ((x.2.2.2.2.1.1, (x.2.2.2.2.1.2.1, (x.2.2.2.2.1.2.2.1, ()))), ((x.2.2.2.2.2.1.1, ()), ((), ((x.2.2.2.2.2.2.2.1.1, ()), (x.2.2.2.2.2.2.2.2.2.2.2.2.1, (x.2.2.2.2.2.2.2.2.2.2.2.2.2.1, (x.2.2.2.2.2.2.2.2.2.2.2.2.2.2.1, (x.2.2.2.2.2.2.2.2.2.2.1, (x.2.2.2.2.2.2.2.2.2.2.2.1, ())))))))))))))).bind fun r1 =>
        F ((), ((r1.2.1.1, (r1.2.1.2.1, (r1.2.1.2.2.1, ()))), ((r1.2.2.1.1, (r1.2.2.1.2.1, (r1.2.2.1.2.2.1, (r1.2.2.1.2.2.2.1, (r1.2.2.1.2.2.2.2.1, (r1.2.2.1.2.2.2.2.2.1, ())))))), ((r1.2.2.2.1.1, (r1.2.2.2.1.2.1, (r1.2.2.2.1.2.2.1, ()))), ((r1.2.2.2.2.1.1, (r1.2.2.2.2.1.2.1, (r1.2.2.2.2.1.2.2.1, ()))), ((r1.2.2.2.2.2.1.1, ()), ((), ((r1.2.2.2.2.2.2.2.1.1, ()), ((), ((x.2.2.2.2.2.2.2.2.2.1.1, ()), (r1.2.2.2.2.2.2.2.2.2.2.2.1, (r1.2.2.2.2.2.2.2.2.2.2.2.2.1, (r1.2.2.2.2.2.2.2.2.1, (r1.2.2.2.2.2.2.2.2.2.1, (r1.2.2.2.2.2.2.2.2.2.2.1, ())))))))))))))))
      else
        chain_place_upto_L2_j1 N F x
    else
      chain_place_upto_L2_j1 N F x
  else
    chain_place_upto_L2_j1 N F x

def chain_place_upto (N : Nat) (x : ((Int × Unit) × ((Ti10 × ((Int × (Int × Int)) × (Int × Unit))) × ((Ti8 × (Ti9 × (Ti9 × (Ti9 × ((Int × Int) × (Int × Unit)))))) × ((Int × (Int × (Int × Unit))) × ((Int × (Int × (Int × Unit))) × ((Int × Unit) × (Unit × ((Int × Unit) × ((List Ti5) × ((List Ti5) × ((List Int) × ((List Ti5) × ((List Ti5) × Unit)))))))))))))) : Option (Unit × ((Ti10 × ((Int × (Int × Int)) × (Int × Unit))) × ((Ti8 × (Ti9 × (Ti9 × (Ti9 × ((Int × Int) × (Int × Unit)))))) × ((Int × (Int × (Int × Unit))) × ((Int × (Int × (Int × Unit))) × ((Int × Unit) × (Unit × ((Int × Unit) × ((List Ti5) × ((List Ti5) × ((List Int) × ((List Ti5) × ((List Ti5) × Unit))))))))))))) :=
  (iter (chain_place_upto_L2 N) N ((), ((x.2.1.1, (x.2.1.2.1, (x.2.1.2.2.1, ()))), ((x.2.2.1.1, (x.2.2.1.2.1, (x.2.2.1.2.2.1, (x.2.2.1.2.2.2.1, (x.2.2.1.2.2.2.2.1, (x.2.2.1.2.2.2.2.2.1, ())))))), ((x.2.2.2.1.1, (x.2.2.2.1.2.1, (x.2.2.2.1.2.2.1, ()))), ((x.2.2.2.2.1.1, (x.2.2.2.2.1.2.1, (x.2.2.2.2.1.2.2.1, ()))), ((x.2.2.2.2.2.1.1, ()), ((), ((x.2.2.2.2.2.2.2.1.1, ()), ((), ((x.1.1, ()), (x.2.2.2.2.2.2.2.2.2.2.2.1, (x.2.2.2.2.2.2.2.2.2.2.2.2.1, (x.2.2.2.2.2.2.2.2.1, (x.2.2.2.2.2.2.2.2.2.1, (x.2.2.2.2.2.2.2.2.2.2.1, ())))))))))))))))).bind fun r0 =>
  some ((), ((r0.2.1.1, (r0.2.1.2.1, (r0.2.1.2.2.1, ()))), ((r0.2.2.1.1, (r0.2.2.1.2.1, (r0.2.2.1.2.2.1, (r0.2.2.1.2.2.2.1, (r0.2.2.1.2.2.2.2.1, (r0.2.2.1.2.2.2.2.2.1, ())))))), ((r0.2.2.2.1.1, (r0.2.2.2.1.2.1, (r0.2.2.2.1.2.2.1, ()))), ((r0.2.2.2.2.1.1, (r0.2.2.2.2.1.2.1, (r0.2.2.2.2.1.2.2.1, ()))), ((r0.2.2.2.2.2.1.1, ()), ((), ((r0.2.2.2.2.2.2.2.1.1, ()), (r0.2.2.2.2.2.2.2.2.2.2.1, (r0.2.2.2.2.2.2.2.2.2.2.2.1, (r0.2.2.2.2.2.2.2.2.2.2.2.2.1, (r0.2.2.2.2.2.2.2.2.1, (r0.2.2.2.2.2.2.2.2.2.1, ())))))))))))))

def ecn_is (_N : Nat) (a0 : Int) : Option Bool :=
  bif ((decide ((0 : Int) ≤ a0)) == true) then
    some (decide (a0 ≤ 3))
  else
    some false

def ecn_Low (N : Nat) (a0 : Int) : Option Bool :=
  (ecn_is N a0).bind fun r0 =>
  bif (r0 == true) then
    some ((bits .and .i64 a0 1) == 1)
  else
    some false

def ring_Ring_api_Packet_grow_L2 (_N : Nat) (F : ((Int × (Int × Unit)) × ((Int × (Int × (Int × Unit))) × ((List Ti5) × ((List Ti5) × Unit)))) → Option (Unit × ((Int × (Int × (Int × Unit))) × ((List Ti5) × ((List Ti5) × Unit))))) (x : ((Int × (Int × Unit)) × ((Int × (Int × (Int × Unit))) × ((List Ti5) × ((List Ti5) × Unit))))) : Option (Unit × ((Int × (Int × (Int × Unit))) × ((List Ti5) × ((List Ti5) × Unit)))) :=
  bif (decide (x.1.2.1 < x.1.1)) then
    bif (! (decide ((((x.2.2.2.1).length : Nat) : Int) = 0))) then
      bif ((decide ((0 : Int) ≤ (Int.tmod (IntKind.wrap .i64 (x.2.1.1 + x.1.2.1)) (((x.2.2.2.1).length : Nat) : Int)))) && (decide ((Int.tmod (IntKind.wrap .i64 (x.2.1.1 + x.1.2.1)) (((x.2.2.2.1).length : Nat) : Int)) < (((x.2.2.2.1).length : Nat) : Int)))) then
        bif ((decide ((0 : Int) ≤ x.1.2.1)) && (decide (x.1.2.1 < (((x.2.2.1).length : Nat) : Int)))) then
          F ((x.1.1, ((IntKind.wrap .i64 (x.1.2.1 + 1)), ())), ((x.2.1.1, (x.2.1.2.1, (x.2.1.2.2.1, ()))), ((x.2.2.1.set (x.1.2.1 : Int).toNat (x.2.2.2.1.getD ((Int.tmod (IntKind.wrap .i64 (x.2.1.1 + x.1.2.1)) (((x.2.2.2.1).length : Nat) : Int)) : Int).toNat (0, (0, (0, (0, 0)))))), (x.2.2.2.1, ()))))
        else
          none
      else
        none
    else
      none
  else
    some ((), ((x.2.1.1, (x.2.1.2.1, (x.2.1.2.2.1, ()))), (x.2.2.1, (x.2.2.2.1, ()))))

def ring_Ring_api_Packet_grow (N : Nat) (x : (Unit × ((Int × (Int × (Int × Unit))) × ((List Ti5) × Unit)))) : Option (Unit × ((Int × (Int × (Int × Unit))) × ((List Ti5) × Unit))) :=
  bif ((decide ((0 : Int) ≤ (imn (imx 4 (IntKind.wrap .i64 (2 * (((x.2.2.1).length : Nat) : Int)))) x.2.1.2.2.1))) && (((decide ((imn (imx 4 (IntKind.wrap .i64 (2 * (((x.2.2.1).length : Nat) : Int)))) x.2.1.2.2.1) = (imn (imx 4 (IntKind.wrap .i64 (2 * (((x.2.2.1).length : Nat) : Int)))) x.2.1.2.2.1))) && (decide (((imn (imx 4 (IntKind.wrap .i64 (2 * (((x.2.2.1).length : Nat) : Int)))) x.2.1.2.2.1) * 40) ≤ 140737488355328))) && (decide ((imn (imx 4 (IntKind.wrap .i64 (2 * (((x.2.2.1).length : Nat) : Int)))) x.2.1.2.2.1) ≤ 140737488355328)))) then
    (iter (ring_Ring_api_Packet_grow_L2 N) N ((x.2.1.2.1, (0, ())), ((x.2.1.1, (x.2.1.2.1, (x.2.1.2.2.1, ()))), ((List.replicate ((imn (imx 4 (IntKind.wrap .i64 (2 * (((x.2.2.1).length : Nat) : Int)))) x.2.1.2.2.1) : Int).toNat ((0, (0, (0, (0, 0)))) : Ti5)), (x.2.2.1, ()))))).bind fun r0 =>
    some ((), ((0, (r0.2.1.2.1, (r0.2.1.2.2.1, ()))), (r0.2.2.1, ())))
  else
    none

def ring_Ring_api_Packet_Push (N : Nat) (x : ((Ti5 × Unit) × ((Int × (Int × (Int × Unit))) × ((List Ti5) × Unit)))) : Option ((Int × Unit) × ((Int × (Int × (Int × Unit))) × ((List Ti5) × Unit))) :=
  bif (x.2.1.2.1 == x.2.1.2.2.1) then
    some ((9, ()), ((x.2.1.1, (x.2.1.2.1, (x.2.1.2.2.1, ()))), (x.2.2.1, ())))
  else
    bif (x.2.1.2.1 == (((x.2.2.1).length : Nat) : Int)) then
      (ring_Ring_api_Packet_grow N ((), ((x.2.1.1, (x.2.1.2.1, (x.2.1.2.2.1, ()))), (x.2.2.1, ())))).bind fun r0 =>
      bif (! (decide ((((r0.2.2.1).length : Nat) : Int) = 0))) then
        bif ((decide ((0 : Int) ≤ (Int.tmod (IntKind.wrap .i64 (r0.2.1.1 + r0.2.1.2.1)) (((r0.2.2.1).length : Nat) : Int)))) && (decide ((Int.tmod (IntKind.wrap .i64 (r0.2.1.1 + r0.2.1.2.1)) (((r0.2.2.1).length : Nat) : Int)) < (((r0.2.2.1).length : Nat) : Int)))) then
          some ((0, ()), ((r0.2.1.1, ((IntKind.wrap .i64 (r0.2.1.2.1 + 1)), (r0.2.1.2.2.1, ()))), ((r0.2.2.1.set ((Int.tmod (IntKind.wrap .i64 (r0.2.1.1 + r0.2.1.2.1)) (((r0.2.2.1).length : Nat) : Int)) : Int).toNat x.1.1), ())))
        else
          none
      else
        none
    else
      bif (! (decide ((((x.2.2.1).length : Nat) : Int) = 0))) then
        bif ((decide ((0 : Int) ≤ (Int.tmod (IntKind.wrap .i64 (x.2.1.1 + x.2.1.2.1)) (((x.2.2.1).length : Nat) : Int)))) && (decide ((Int.tmod (IntKind.wrap .i64 (x.2.1.1 + x.2.1.2.1)) (((x.2.2.1).length : Nat) : Int)) < (((x.2.2.1).length : Nat) : Int)))) then
          some ((0, ()), ((x.2.1.1, ((IntKind.wrap .i64 (x.2.1.2.1 + 1)), (x.2.1.2.2.1, ()))), ((x.2.2.1.set ((Int.tmod (IntKind.wrap .i64 (x.2.1.1 + x.2.1.2.1)) (((x.2.2.1).length : Nat) : Int)) : Int).toNat x.1.1), ())))
        else
          none
      else
        none

def dual_Queue_Put (N : Nat) (x : ((Int × (Ti5 × Unit)) × ((Ti8 × (Ti9 × (Ti9 × (Ti9 × ((Int × Int) × (Int × Unit)))))) × ((Int × (Int × (Int × Unit))) × ((Int × (Int × (Int × Unit))) × ((Int × Unit) × (Unit × ((Int × Unit) × ((List Ti5) × ((List Ti5) × ((List Int) × Unit))))))))))) : Option ((Bool × Unit) × ((Ti8 × (Ti9 × (Ti9 × (Ti9 × ((Int × Int) × (Int × Unit)))))) × ((Int × (Int × (Int × Unit))) × ((Int × (Int × (Int × Unit))) × ((Int × Unit) × (Unit × ((Int × Unit) × ((List Ti5) × ((List Ti5) × ((List Int) × Unit)))))))))) :=
  (sat_Clamp N x.1.2.1.2.2.1 1 65536).bind fun r0 =>
  (sat_Clamp N x.1.1 0 1125899906842624).bind fun r1 =>
  (ecn_Low N x.1.2.1.2.2.2.1).bind fun r2 =>
  bif r2 then
    bif ((decide (x.2.1.1.1 < (IntKind.wrap .i64 ((IntKind.wrap .i64 (x.2.1.2.2.1.2.2.2.2.2.2.2.1 + x.2.1.2.2.2.1.2.2.2.2.2.2.2.1)) + r0)))) == false) then
      (ring_Ring_api_Packet_Push N (((x.1.2.1.1, (x.1.2.1.2.1, (r0, (x.1.2.1.2.2.2.1, r1)))), ()), ((x.2.2.1.1, (x.2.2.1.2.1, (x.2.2.1.2.2.1, ()))), (x.2.2.2.2.2.2.2.1, ())))).bind fun r3 =>
      bif (! (r3.1.1 == 0)) then
        some ((false, ()), ((x.2.1.1, (x.2.1.2.1, (((IntKind.wrap .i64 (x.2.1.2.2.1.1 + 1)), (x.2.1.2.2.1.2.1, ((IntKind.wrap .i64 (x.2.1.2.2.1.2.2.1 + 1)), (x.2.1.2.2.1.2.2.2.1, ((IntKind.wrap .i64 (x.2.1.2.2.1.2.2.2.2.1 + r0)), (x.2.1.2.2.1.2.2.2.2.2.1, ((IntKind.wrap .i64 (x.2.1.2.2.1.2.2.2.2.2.2.1 + r0)), x.2.1.2.2.1.2.2.2.2.2.2.2))))))), (x.2.1.2.2.2.1, (x.2.1.2.2.2.2.1, (x.2.1.2.2.2.2.2.1, ())))))), ((r3.2.1.1, (r3.2.1.2.1, (r3.2.1.2.2.1, ()))), ((x.2.2.2.1.1, (x.2.2.2.1.2.1, (x.2.2.2.1.2.2.1, ()))), ((x.2.2.2.2.1.1, ()), ((), ((x.2.2.2.2.2.2.1.1, ()), (r3.2.2.1, (x.2.2.2.2.2.2.2.2.1, (x.2.2.2.2.2.2.2.2.2.1, ()))))))))))
      else
        some ((true, ()), ((x.2.1.1, (x.2.1.2.1, (((IntKind.wrap .i64 (x.2.1.2.2.1.1 + 1)), (x.2.1.2.2.1.2.1, (x.2.1.2.2.1.2.2.1, ((IntKind.wrap .i64 (x.2.1.2.2.1.2.2.2.1 + 1)), ((IntKind.wrap .i64 (x.2.1.2.2.1.2.2.2.2.1 + r0)), (x.2.1.2.2.1.2.2.2.2.2.1, (x.2.1.2.2.1.2.2.2.2.2.2.1, ((IntKind.wrap .i64 (x.2.1.2.2.1.2.2.2.2.2.2.2.1 + r0)), x.2.1.2.2.1.2.2.2.2.2.2.2.2)))))))), (x.2.1.2.2.2.1, (x.2.1.2.2.2.2.1, (x.2.1.2.2.2.2.2.1, ())))))), ((r3.2.1.1, (r3.2.1.2.1, (r3.2.1.2.2.1, ()))), ((x.2.2.2.1.1, (x.2.2.2.1.2.1, (x.2.2.2.1.2.2.1, ()))), ((x.2.2.2.2.1.1, ()), ((), ((x.2.2.2.2.2.2.1.1, ()), (r3.2.2.1, (x.2.2.2.2.2.2.2.2.1, (x.2.2.2.2.2.2.2.2.2.1, ()))))))))))
    else
      some ((false, ()), ((x.2.1.1, (x.2.1.2.1, (((IntKind.wrap .i64 (x.2.1.2.2.1.1 + 1)), (x.2.1.2.2.1.2.1, ((IntKind.wrap .i64 (x.2.1.2.2.1.2.2.1 + 1)), (x.2.1.2.2.1.2.2.2.1, ((IntKind.wrap .i64 (x.2.1.2.2.1.2.2.2.2.1 + r0)), (x.2.1.2.2.1.2.2.2.2.2.1, ((IntKind.wrap .i64 (x.2.1.2.2.1.2.2.2.2.2.2.1 + r0)), x.2.1.2.2.1.2.2.2.2.2.2.2))))))), (x.2.1.2.2.2.1, (x.2.1.2.2.2.2.1, (x.2.1.2.2.2.2.2.1, ())))))), ((x.2.2.1.1, (x.2.2.1.2.1, (x.2.2.1.2.2.1, ()))), ((x.2.2.2.1.1, (x.2.2.2.1.2.1, (x.2.2.2.1.2.2.1, ()))), ((x.2.2.2.2.1.1, ()), ((), ((x.2.2.2.2.2.2.1.1, ()), (x.2.2.2.2.2.2.2.1, (x.2.2.2.2.2.2.2.2.1, (x.2.2.2.2.2.2.2.2.2.1, ()))))))))))
  else
    bif ((decide (x.2.1.1.1 < (IntKind.wrap .i64 ((IntKind.wrap .i64 (x.2.1.2.2.1.2.2.2.2.2.2.2.1 + x.2.1.2.2.2.1.2.2.2.2.2.2.2.1)) + r0)))) == false) then
      (ring_Ring_api_Packet_Push N (((x.1.2.1.1, (x.1.2.1.2.1, (r0, (x.1.2.1.2.2.2.1, r1)))), ()), ((x.2.2.2.1.1, (x.2.2.2.1.2.1, (x.2.2.2.1.2.2.1, ()))), (x.2.2.2.2.2.2.2.2.1, ())))).bind fun r4 =>
      bif (! (r4.1.1 == 0)) then
        some ((false, ()), ((x.2.1.1, (x.2.1.2.1, (x.2.1.2.2.1, (((IntKind.wrap .i64 (x.2.1.2.2.2.1.1 + 1)), (x.2.1.2.2.2.1.2.1, ((IntKind.wrap .i64 (x.2.1.2.2.2.1.2.2.1 + 1)), (x.2.1.2.2.2.1.2.2.2.1, ((IntKind.wrap .i64 (x.2.1.2.2.2.1.2.2.2.2.1 + r0)), (x.2.1.2.2.2.1.2.2.2.2.2.1, ((IntKind.wrap .i64 (x.2.1.2.2.2.1.2.2.2.2.2.2.1 + r0)), x.2.1.2.2.2.1.2.2.2.2.2.2.2))))))), (x.2.1.2.2.2.2.1, (x.2.1.2.2.2.2.2.1, ())))))), ((x.2.2.1.1, (x.2.2.1.2.1, (x.2.2.1.2.2.1, ()))), ((r4.2.1.1, (r4.2.1.2.1, (r4.2.1.2.2.1, ()))), ((x.2.2.2.2.1.1, ()), ((), ((x.2.2.2.2.2.2.1.1, ()), (x.2.2.2.2.2.2.2.1, (r4.2.2.1, (x.2.2.2.2.2.2.2.2.2.1, ()))))))))))
      else
        some ((true, ()), ((x.2.1.1, (x.2.1.2.1, (x.2.1.2.2.1, (((IntKind.wrap .i64 (x.2.1.2.2.2.1.1 + 1)), (x.2.1.2.2.2.1.2.1, (x.2.1.2.2.2.1.2.2.1, ((IntKind.wrap .i64 (x.2.1.2.2.2.1.2.2.2.1 + 1)), ((IntKind.wrap .i64 (x.2.1.2.2.2.1.2.2.2.2.1 + r0)), (x.2.1.2.2.2.1.2.2.2.2.2.1, (x.2.1.2.2.2.1.2.2.2.2.2.2.1, ((IntKind.wrap .i64 (x.2.1.2.2.2.1.2.2.2.2.2.2.2.1 + r0)), x.2.1.2.2.2.1.2.2.2.2.2.2.2.2)))))))), (x.2.1.2.2.2.2.1, (x.2.1.2.2.2.2.2.1, ())))))), ((x.2.2.1.1, (x.2.2.1.2.1, (x.2.2.1.2.2.1, ()))), ((r4.2.1.1, (r4.2.1.2.1, (r4.2.1.2.2.1, ()))), ((x.2.2.2.2.1.1, ()), ((), ((x.2.2.2.2.2.2.1.1, ()), (x.2.2.2.2.2.2.2.1, (r4.2.2.1, (x.2.2.2.2.2.2.2.2.2.1, ()))))))))))
    else
      some ((false, ()), ((x.2.1.1, (x.2.1.2.1, (x.2.1.2.2.1, (((IntKind.wrap .i64 (x.2.1.2.2.2.1.1 + 1)), (x.2.1.2.2.2.1.2.1, ((IntKind.wrap .i64 (x.2.1.2.2.2.1.2.2.1 + 1)), (x.2.1.2.2.2.1.2.2.2.1, ((IntKind.wrap .i64 (x.2.1.2.2.2.1.2.2.2.2.1 + r0)), (x.2.1.2.2.2.1.2.2.2.2.2.1, ((IntKind.wrap .i64 (x.2.1.2.2.2.1.2.2.2.2.2.2.1 + r0)), x.2.1.2.2.2.1.2.2.2.2.2.2.2))))))), (x.2.1.2.2.2.2.1, (x.2.1.2.2.2.2.2.1, ())))))), ((x.2.2.1.1, (x.2.2.1.2.1, (x.2.2.1.2.2.1, ()))), ((x.2.2.2.1.1, (x.2.2.2.1.2.1, (x.2.2.2.1.2.2.1, ()))), ((x.2.2.2.2.1.1, ()), ((), ((x.2.2.2.2.2.2.1.1, ()), (x.2.2.2.2.2.2.2.1, (x.2.2.2.2.2.2.2.2.1, (x.2.2.2.2.2.2.2.2.2.1, ()))))))))))

def chain_place_put (N : Nat) (x : ((Ti5 × Unit) × ((Ti10 × ((Int × (Int × Int)) × (Int × Unit))) × ((Ti8 × (Ti9 × (Ti9 × (Ti9 × ((Int × Int) × (Int × Unit)))))) × ((Int × (Int × (Int × Unit))) × ((Int × (Int × (Int × Unit))) × ((Int × Unit) × (Unit × ((Int × Unit) × ((List Ti5) × ((List Ti5) × ((List Int) × ((List Ti5) × ((List Ti5) × Unit)))))))))))))) : Option (Unit × ((Ti10 × ((Int × (Int × Int)) × (Int × Unit))) × ((Ti8 × (Ti9 × (Ti9 × (Ti9 × ((Int × Int) × (Int × Unit)))))) × ((Int × (Int × (Int × Unit))) × ((Int × (Int × (Int × Unit))) × ((Int × Unit) × (Unit × ((Int × Unit) × ((List Ti5) × ((List Ti5) × ((List Int) × ((List Ti5) × ((List Ti5) × Unit))))))))))))) :=
  (chain_place_upto N ((x.1.1.2.2.2.2, ()), ((x.2.1.1, (x.2.1.2.1, (x.2.1.2.2.1, ()))), ((x.2.2.1.1, (x.2.2.1.2.1, (x.2.2.1.2.2.1, (x.2.2.1.2.2.2.1, (x.2.2.1.2.2.2.2.1, (x.2.2.1.2.2.2.2.2.1, ())))))), ((x.2.2.2.1.1, (x.2.2.2.1.2.1, (x.2.2.2.1.2.2.1, ()))), ((x.2.2.2.2.1.1, (x.2.2.2.2.1.2.1, (x.2.2.2.2.1.2.2.1, ()))), ((x.2.2.2.2.2.1.1, ()), ((), ((x.2.2.2.2.2.2.2.1.1, ()), (x.2.2.2.2.2.2.2.2.1, (x.2.2.2.2.2.2.2.2.2.1, (x.2.2.2.2.2.2.2.2.2.2.1, (x.2.2.2.2.2.2.2.2.2.2.2.1, (x.2.2.2.2.2.2.2.2.2.2.2.2.1, ())))))))))))))).bind fun r0 =>
  (dual_Queue_Put N ((x.1.1.2.2.2.2, (x.1.1, ())), ((r0.2.2.1.1, (r0.2.2.1.2.1, (r0.2.2.1.2.2.1, (r0.2.2.1.2.2.2.1, (r0.2.2.1.2.2.2.2.1, (r0.2.2.1.2.2.2.2.2.1, ())))))), ((r0.2.2.2.1.1, (r0.2.2.2.1.2.1, (r0.2.2.2.1.2.2.1, ()))), ((r0.2.2.2.2.1.1, (r0.2.2.2.2.1.2.1, (r0.2.2.2.2.1.2.2.1, ()))), ((r0.2.2.2.2.2.1.1, ()), ((), ((r0.2.2.2.2.2.2.2.1.1, ()), (r0.2.2.2.2.2.2.2.2.1, (r0.2.2.2.2.2.2.2.2.2.1, (r0.2.2.2.2.2.2.2.2.2.2.1, ()))))))))))).bind fun r1 =>
  bif (!r1.1.1) then
    bif (decide ((((r0.2.2.2.2.2.2.2.2.2.2.2.2.1).length + 1) * 40) ≤ 140737488355328)) then
      some ((), ((r0.2.1.1, ((r0.2.1.2.1.1, ((imx r0.2.1.2.1.2.1 x.1.1.2.2.2.2), r0.2.1.2.1.2.2)), (r0.2.1.2.2.1, ()))), ((r1.2.1.1, (r1.2.1.2.1, (r1.2.1.2.2.1, (r1.2.1.2.2.2.1, (r1.2.1.2.2.2.2.1, (r1.2.1.2.2.2.2.2.1, ())))))), ((r1.2.2.1.1, (r1.2.2.1.2.1, (r1.2.2.1.2.2.1, ()))), ((r1.2.2.2.1.1, (r1.2.2.2.1.2.1, (r1.2.2.2.1.2.2.1, ()))), ((r1.2.2.2.2.1.1, ()), ((), ((r1.2.2.2.2.2.2.1.1, ()), (r1.2.2.2.2.2.2.2.1, (r1.2.2.2.2.2.2.2.2.1, (r1.2.2.2.2.2.2.2.2.2.1, (r0.2.2.2.2.2.2.2.2.2.2.2.1, ((r0.2.2.2.2.2.2.2.2.2.2.2.2.1 ++ ([x.1.1] : List Ti5)), ())))))))))))))
    else
      none
  else
    some ((), ((r0.2.1.1, ((r0.2.1.2.1.1, ((imx r0.2.1.2.1.2.1 x.1.1.2.2.2.2), r0.2.1.2.1.2.2)), (r0.2.1.2.2.1, ()))), ((r1.2.1.1, (r1.2.1.2.1, (r1.2.1.2.2.1, (r1.2.1.2.2.2.1, (r1.2.1.2.2.2.2.1, (r1.2.1.2.2.2.2.2.1, ())))))), ((r1.2.2.1.1, (r1.2.2.1.2.1, (r1.2.2.1.2.2.1, ()))), ((r1.2.2.2.1.1, (r1.2.2.2.1.2.1, (r1.2.2.2.1.2.2.1, ()))), ((r1.2.2.2.2.1.1, ()), ((), ((r1.2.2.2.2.2.2.1.1, ()), (r1.2.2.2.2.2.2.2.1, (r1.2.2.2.2.2.2.2.2.1, (r1.2.2.2.2.2.2.2.2.2.1, (r0.2.2.2.2.2.2.2.2.2.2.2.1, (r0.2.2.2.2.2.2.2.2.2.2.2.2.1, ())))))))))))))

def chain_place_rest_L0 (N : Nat) (F : (Unit × ((Ti10 × ((Int × (Int × Int)) × (Int × Unit))) × ((Ti8 × (Ti9 × (Ti9 × (Ti9 × ((Int × Int) × (Int × Unit)))))) × ((Int × (Int × (Int × Unit))) × ((Int × (Int × (Int × Unit))) × ((Int × Unit) × (Unit × ((Int × Unit) × ((List Ti5) × ((List Ti5) × ((List Ti5) × ((List Ti5) × ((List Int) × Unit))))))))))))) → Option (Unit × ((Ti10 × ((Int × (Int × Int)) × (Int × Unit))) × ((Ti8 × (Ti9 × (Ti9 × (Ti9 × ((Int × Int) × (Int × Unit)))))) × ((Int × (Int × (Int × Unit))) × ((Int × (Int × (Int × Unit))) × ((Int × Unit) × (Unit × ((Int × Unit) × ((List Ti5) × ((List Ti5) × ((List Ti5) × ((List Ti5) × ((List Int) × Unit)))))))))))))) (x : (Unit × ((Ti10 × ((Int × (Int × Int)) × (Int × Unit))) × ((Ti8 × (Ti9 × (Ti9 × (Ti9 × ((Int × Int) × (Int × Unit)))))) × ((Int × (Int × (Int × Unit))) × ((Int × (Int × (Int × Unit))) × ((Int × Unit) × (Unit × ((Int × Unit) × ((List Ti5) × ((List Ti5) × ((List Ti5) × ((List Ti5) × ((List Int) × Unit)))))))))))))) : Option (Unit × ((Ti10 × ((Int × (Int × Int)) × (Int × Unit))) × ((Ti8 × (Ti9 × (Ti9 × (Ti9 × ((Int × Int) × (Int × Unit)))))) × ((Int × (Int × (Int × Unit))) × ((Int × (Int × (Int × Unit))) × ((Int × Unit) × (Unit × ((Int × Unit) × ((List Ti5) × ((List Ti5) × ((List Ti5) × ((List Ti5) × ((List Int) × Unit))))))))))))) :=
  (dual_Queue_Waits N ((), ((x.2.2.1.1, (x.2.2.1.2.1, (x.2.2.1.2.2.1, (x.2.2.1.2.2.2.1, (x.2.2.1.2.2.2.2.1, (x.2.2.1.2.2.2.2.2.1, ())))))), ()))).bind fun r0 =>
  bif r0 then
    bif (decide (x.2.1.2.1.2.1 ≤ x.2.1.2.2.1)) then
      (chain_place_take N ((), ((x.2.1.1, (x.2.1.2.1, (x.2.1.2.2.1, ()))), ((x.2.2.1.1, (x.2.2.1.2.1, (x.2.2.1.2.2.1, (x.2.2.1.2.2.2.1, (x.2.2.1.2.2.2.2.1, (x.2.2.1.2.2.2.2.2.1, ())))))), ((x.2.2.2.1.1, (x.2.2.2.1.2.1, (x.2.2.2.1.2.2.1, ()))), ((x.2.2.2.2.1.1, (x.2.2.2.2.1.2.1, (x.2.2.2.2.1.2.2.1, ()))), ((x.2.2.2.2.2.1.1, ()), ((), ((x.2.2.2.2.2.2.2.1.1, ()), (x.2.2.2.2.2.2.2.2.2.2.1, (x.2.2.2.2.2.2.2.2.2.2.2.1, (x.2.2.2.2.2.2.2.2.2.2.2.2.1, (x.2.2.2.2.2.2.2.2.1, (x.2.2.2.2.2.2.2.2.2.1, ())))))))))))))).bind fun r1 =>
      F ((), ((r1.2.1.1, (r1.2.1.2.1, (r1.2.1.2.2.1, ()))), ((r1.2.2.1.1, (r1.2.2.1.2.1, (r1.2.2.1.2.2.1, (r1.2.2.1.2.2.2.1, (r1.2.2.1.2.2.2.2.1, (r1.2.2.1.2.2.2.2.2.1, ())))))), ((r1.2.2.2.1.1, (r1.2.2.2.1.2.1, (r1.2.2.2.1.2.2.1, ()))), ((r1.2.2.2.2.1.1, (r1.2.2.2.2.1.2.1, (r1.2.2.2.2.1.2.2.1, ()))), ((r1.2.2.2.2.2.1.1, ()), ((), ((r1.2.2.2.2.2.2.2.1.1, ()), (r1.2.2.2.2.2.2.2.2.2.2.2.1, (r1.2.2.2.2.2.2.2.2.2.2.2.2.1, (r1.2.2.2.2.2.2.2.2.1, (r1.2.2.2.2.2.2.2.2.2.1, (r1.2.2.2.2.2.2.2.2.2.2.1, ())))))))))))))
    else
      (chain_place_step N ((), ((x.2.1.1, (x.2.1.2.1, (x.2.1.2.2.1, ()))), ((x.2.2.1.1, (x.2.2.1.2.1, (x.2.2.1.2.2.1, (x.2.2.1.2.2.2.1, (x.2.2.1.2.2.2.2.1, (x.2.2.1.2.2.2.2.2.1, ())))))), ((x.2.2.2.1.1, (x.2.2.2.1.2.1, (x.2.2.2.1.2.2.1, ()))), ((x.2.2.2.2.1.1, (x.2.2.2.2.1.2.1, (x.2.2.2.2.1.2.2.1, ()))), ((x.2.2.2.2.2.1.1, ()), ((), ((x.2.2.2.2.2.2.2.1.1, ()), (x.2.2.2.2.2.2.2.2.2.2.1, (x.2.2.2.2.2.2.2.2.2.2.2.1, (x.2.2.2.2.2.2.2.2.2.2.2.2.1, (x.2.2.2.2.2.2.2.2.1, (x.2.2.2.2.2.2.2.2.2.1, ())))))))))))))).bind fun r2 =>
      F ((), ((r2.2.1.1, (r2.2.1.2.1, (r2.2.1.2.2.1, ()))), ((r2.2.2.1.1, (r2.2.2.1.2.1, (r2.2.2.1.2.2.1, (r2.2.2.1.2.2.2.1, (r2.2.2.1.2.2.2.2.1, (r2.2.2.1.2.2.2.2.2.1, ())))))), ((r2.2.2.2.1.1, (r2.2.2.2.1.2.1, (r2.2.2.2.1.2.2.1, ()))), ((r2.2.2.2.2.1.1, (r2.2.2.2.2.1.2.1, (r2.2.2.2.2.1.2.2.1, ()))), ((r2.2.2.2.2.2.1.1, ()), ((), ((r2.2.2.2.2.2.2.2.1.1, ()), (r2.2.2.2.2.2.2.2.2.2.2.2.1, (r2.2.2.2.2.2.2.2.2.2.2.2.2.1, (r2.2.2.2.2.2.2.2.2.1, (r2.2.2.2.2.2.2.2.2.2.1, (r2.2.2.2.2.2.2.2.2.2.2.1, ())))))))))))))
  else
    some ((), ((x.2.1.1, (x.2.1.2.1, (x.2.1.2.2.1, ()))), ((x.2.2.1.1, (x.2.2.1.2.1, (x.2.2.1.2.2.1, (x.2.2.1.2.2.2.1, (x.2.2.1.2.2.2.2.1, (x.2.2.1.2.2.2.2.2.1, ())))))), ((x.2.2.2.1.1, (x.2.2.2.1.2.1, (x.2.2.2.1.2.2.1, ()))), ((x.2.2.2.2.1.1, (x.2.2.2.2.1.2.1, (x.2.2.2.2.1.2.2.1, ()))), ((x.2.2.2.2.2.1.1, ()), ((), ((x.2.2.2.2.2.2.2.1.1, ()), (x.2.2.2.2.2.2.2.2.1, (x.2.2.2.2.2.2.2.2.2.1, (x.2.2.2.2.2.2.2.2.2.2.1, (x.2.2.2.2.2.2.2.2.2.2.2.1, (x.2.2.2.2.2.2.2.2.2.2.2.2.1, ())))))))))))))

def chain_place_rest (N : Nat) (x : (Unit × ((Ti10 × ((Int × (Int × Int)) × (Int × Unit))) × ((Ti8 × (Ti9 × (Ti9 × (Ti9 × ((Int × Int) × (Int × Unit)))))) × ((Int × (Int × (Int × Unit))) × ((Int × (Int × (Int × Unit))) × ((Int × Unit) × (Unit × ((Int × Unit) × ((List Ti5) × ((List Ti5) × ((List Int) × ((List Ti5) × ((List Ti5) × Unit)))))))))))))) : Option (Unit × ((Ti10 × ((Int × (Int × Int)) × (Int × Unit))) × ((Ti8 × (Ti9 × (Ti9 × (Ti9 × ((Int × Int) × (Int × Unit)))))) × ((Int × (Int × (Int × Unit))) × ((Int × (Int × (Int × Unit))) × ((Int × Unit) × (Unit × ((Int × Unit) × ((List Ti5) × ((List Ti5) × ((List Int) × ((List Ti5) × ((List Ti5) × Unit))))))))))))) :=
  (iter (chain_place_rest_L0 N) N ((), ((x.2.1.1, (x.2.1.2.1, (x.2.1.2.2.1, ()))), ((x.2.2.1.1, (x.2.2.1.2.1, (x.2.2.1.2.2.1, (x.2.2.1.2.2.2.1, (x.2.2.1.2.2.2.2.1, (x.2.2.1.2.2.2.2.2.1, ())))))), ((x.2.2.2.1.1, (x.2.2.2.1.2.1, (x.2.2.2.1.2.2.1, ()))), ((x.2.2.2.2.1.1, (x.2.2.2.2.1.2.1, (x.2.2.2.2.1.2.2.1, ()))), ((x.2.2.2.2.2.1.1, ()), ((), ((x.2.2.2.2.2.2.2.1.1, ()), (x.2.2.2.2.2.2.2.2.2.2.2.1, (x.2.2.2.2.2.2.2.2.2.2.2.2.1, (x.2.2.2.2.2.2.2.2.1, (x.2.2.2.2.2.2.2.2.2.1, (x.2.2.2.2.2.2.2.2.2.2.1, ())))))))))))))).bind fun r0 =>
  some ((), ((r0.2.1.1, (r0.2.1.2.1, (r0.2.1.2.2.1, ()))), ((r0.2.2.1.1, (r0.2.2.1.2.1, (r0.2.2.1.2.2.1, (r0.2.2.1.2.2.2.1, (r0.2.2.1.2.2.2.2.1, (r0.2.2.1.2.2.2.2.2.1, ())))))), ((r0.2.2.2.1.1, (r0.2.2.2.1.2.1, (r0.2.2.2.1.2.2.1, ()))), ((r0.2.2.2.2.1.1, (r0.2.2.2.2.1.2.1, (r0.2.2.2.2.1.2.2.1, ()))), ((r0.2.2.2.2.2.1.1, ()), ((), ((r0.2.2.2.2.2.2.2.1.1, ()), (r0.2.2.2.2.2.2.2.2.2.2.1, (r0.2.2.2.2.2.2.2.2.2.2.2.1, (r0.2.2.2.2.2.2.2.2.2.2.2.2.1, (r0.2.2.2.2.2.2.2.2.1, (r0.2.2.2.2.2.2.2.2.2.1, ())))))))))))))

def chain_Pass_L3 (N : Nat) (F : ((Int × (Int × Unit)) × ((Ti10 × ((Int × (Int × Int)) × (Int × Unit))) × ((List Ti5) × ((Ti8 × (Ti9 × (Ti9 × (Ti9 × ((Int × Int) × (Int × Unit)))))) × ((List Ti5) × ((List Ti5) × ((Int × (Int × (Int × Unit))) × ((Int × (Int × (Int × Unit))) × ((Int × Unit) × ((List Ti5) × ((List Ti5) × (Unit × ((Int × Unit) × ((List Int) × Unit)))))))))))))) → Option (Unit × ((Ti10 × ((Int × (Int × Int)) × (Int × Unit))) × ((Ti8 × (Ti9 × (Ti9 × (Ti9 × ((Int × Int) × (Int × Unit)))))) × ((List Ti5) × ((List Ti5) × ((Int × (Int × (Int × Unit))) × ((Int × (Int × (Int × Unit))) × ((Int × Unit) × ((List Ti5) × ((List Ti5) × (Unit × ((Int × Unit) × ((List Int) × Unit)))))))))))))) (x : ((Int × (Int × Unit)) × ((Ti10 × ((Int × (Int × Int)) × (Int × Unit))) × ((List Ti5) × ((Ti8 × (Ti9 × (Ti9 × (Ti9 × ((Int × Int) × (Int × Unit)))))) × ((List Ti5) × ((List Ti5) × ((Int × (Int × (Int × Unit))) × ((Int × (Int × (Int × Unit))) × ((Int × Unit) × ((List Ti5) × ((List Ti5) × (Unit × ((Int × Unit) × ((List Int) × Unit))))))))))))))) : Option (Unit × ((Ti10 × ((Int × (Int × Int)) × (Int × Unit))) × ((Ti8 × (Ti9 × (Ti9 × (Ti9 × ((Int × Int) × (Int × Unit)))))) × ((List Ti5) × ((List Ti5) × ((Int × (Int × (Int × Unit))) × ((Int × (Int × (Int × Unit))) × ((Int × Unit) × ((List Ti5) × ((List Ti5) × (Unit × ((Int × Unit) × ((List Int) × Unit))))))))))))) :=
  bif (decide (x.1.2.1 < x.1.1)) then
    bif ((decide ((0 : Int) ≤ x.1.2.1)) && (decide (x.1.2.1 < (((x.2.2.1).length : Nat) : Int)))) then
      (chain_place_put N (((x.2.2.1.getD (x.1.2.1 : Int).toNat (0, (0, (0, (0, 0))))), ()), ((x.2.1.1, (x.2.1.2.1, (x.2.1.2.2.1, ()))), ((x.2.2.2.1.1, (x.2.2.2.1.2.1, (x.2.2.2.1.2.2.1, (x.2.2.2.1.2.2.2.1, (x.2.2.2.1.2.2.2.2.1, (x.2.2.2.1.2.2.2.2.2.1, ())))))), ((x.2.2.2.2.2.2.1.1, (x.2.2.2.2.2.2.1.2.1, (x.2.2.2.2.2.2.1.2.2.1, ()))), ((x.2.2.2.2.2.2.2.1.1, (x.2.2.2.2.2.2.2.1.2.1, (x.2.2.2.2.2.2.2.1.2.2.1, ()))), ((x.2.2.2.2.2.2.2.2.1.1, ()), ((), ((x.2.2.2.2.2.2.2.2.2.2.2.2.1.1, ()), (x.2.2.2.2.2.2.2.2.2.1, (x.2.2.2.2.2.2.2.2.2.2.1, (x.2.2.2.2.2.2.2.2.2.2.2.2.2.1, (x.2.2.2.2.1, (x.2.2.2.2.2.1, ())))))))))))))).bind fun r0 =>
      F ((x.1.1, ((IntKind.wrap .i64 (x.1.2.1 + 1)), ())), ((r0.2.1.1, (r0.2.1.2.1, (r0.2.1.2.2.1, ()))), (x.2.2.1, ((r0.2.2.1.1, (r0.2.2.1.2.1, (r0.2.2.1.2.2.1, (r0.2.2.1.2.2.2.1, (r0.2.2.1.2.2.2.2.1, (r0.2.2.1.2.2.2.2.2.1, ())))))), (r0.2.2.2.2.2.2.2.2.2.2.2.1, (r0.2.2.2.2.2.2.2.2.2.2.2.2.1, ((r0.2.2.2.1.1, (r0.2.2.2.1.2.1, (r0.2.2.2.1.2.2.1, ()))), ((r0.2.2.2.2.1.1, (r0.2.2.2.2.1.2.1, (r0.2.2.2.2.1.2.2.1, ()))), ((r0.2.2.2.2.2.1.1, ()), (r0.2.2.2.2.2.2.2.2.1, (r0.2.2.2.2.2.2.2.2.2.1, ((), ((r0.2.2.2.2.2.2.2.1.1, ()), (r0.2.2.2.2.2.2.2.2.2.2.1, ()))))))))))))))
    else
      none
  else
    some ((), ((x.2.1.1, (x.2.1.2.1, (x.2.1.2.2.1, ()))), ((x.2.2.2.1.1, (x.2.2.2.1.2.1, (x.2.2.2.1.2.2.1, (x.2.2.2.1.2.2.2.1, (x.2.2.2.1.2.2.2.2.1, (x.2.2.2.1.2.2.2.2.2.1, ())))))), (x.2.2.2.2.1, (x.2.2.2.2.2.1, ((x.2.2.2.2.2.2.1.1, (x.2.2.2.2.2.2.1.2.1, (x.2.2.2.2.2.2.1.2.2.1, ()))), ((x.2.2.2.2.2.2.2.1.1, (x.2.2.2.2.2.2.2.1.2.1, (x.2.2.2.2.2.2.2.1.2.2.1, ()))), ((x.2.2.2.2.2.2.2.2.1.1, ()), (x.2.2.2.2.2.2.2.2.2.1, (x.2.2.2.2.2.2.2.2.2.2.1, ((), ((x.2.2.2.2.2.2.2.2.2.2.2.2.1.1, ()), (x.2.2.2.2.2.2.2.2.2.2.2.2.2.1, ())))))))))))))

def chain_Pass (N : Nat) (x : (((Ti10 × Unit) × Unit) × ((List Int) × ((List Ti5) × Unit)))) : Option (Unit × ((List Ti5) × ((List Ti5) × Unit))) :=
  (chain_made N (((x.1.1.1, ()), ()), (x.2.1, ()))).bind fun r0 =>
  (chain_coming N x.2.2.1).bind fun r1 =>
  (iter (chain_Pass_L3 N) N (((((r1).length : Nat) : Int), (0, ())), ((r0.2.1.1, (r0.2.1.2.1, (r0.2.1.2.2.1, ()))), (r1, ((r0.2.2.1.1, (r0.2.2.1.2.1, (r0.2.2.1.2.2.1, (r0.2.2.1.2.2.2.1, (r0.2.2.1.2.2.2.2.1, (r0.2.2.1.2.2.2.2.2.1, ())))))), (r0.2.2.2.2.2.2.2.2.2.2.2.1, (r0.2.2.2.2.2.2.2.2.2.2.2.2.1, ((r0.2.2.2.1.1, (r0.2.2.2.1.2.1, (r0.2.2.2.1.2.2.1, ()))), ((r0.2.2.2.2.1.1, (r0.2.2.2.2.1.2.1, (r0.2.2.2.2.1.2.2.1, ()))), ((r0.2.2.2.2.2.1.1, ()), (r0.2.2.2.2.2.2.2.2.1, (r0.2.2.2.2.2.2.2.2.2.1, ((), ((r0.2.2.2.2.2.2.2.1.1, ()), (r0.2.2.2.2.2.2.2.2.2.2.1, ()))))))))))))))).bind fun r2 =>
  (chain_place_rest N ((), ((r2.2.1.1, (r2.2.1.2.1, (r2.2.1.2.2.1, ()))), ((r2.2.2.1.1, (r2.2.2.1.2.1, (r2.2.2.1.2.2.1, (r2.2.2.1.2.2.2.1, (r2.2.2.1.2.2.2.2.1, (r2.2.2.1.2.2.2.2.2.1, ())))))), ((r2.2.2.2.2.2.1.1, (r2.2.2.2.2.2.1.2.1, (r2.2.2.2.2.2.1.2.2.1, ()))), ((r2.2.2.2.2.2.2.1.1, (r2.2.2.2.2.2.2.1.2.1, (r2.2.2.2.2.2.2.1.2.2.1, ()))), ((r2.2.2.2.2.2.2.2.1.1, ()), ((), ((r2.2.2.2.2.2.2.2.2.2.2.2.1.1, ()), (r2.2.2.2.2.2.2.2.2.1, (r2.2.2.2.2.2.2.2.2.2.1, (r2.2.2.2.2.2.2.2.2.2.2.2.2.1, (r2.2.2.2.1, (r2.2.2.2.2.1, ())))))))))))))).bind fun r3 =>
  some ((), (r3.2.2.2.2.2.2.2.2.2.2.2.1, (r3.2.2.2.2.2.2.2.2.2.2.2.2.1, ())))

def leatref50_keep (_N : Nat) (a0 : Int) (a1 : Int) (a2 : Int) : Option Int :=
  some (imn (imx a0 a1) a2)

def leatref36_keep (_N : Nat) (a0 : Int) (a1 : Int) (a2 : Int) : Option Int :=
  some (imn (imx a0 a1) a2)

def leatref36_Limit (N : Nat) (a0 : Ti8) : Option Ti8 :=
  (leatref36_keep N a0.1 1 1073741824).bind fun r0 =>
  (leatref36_keep N a0.2.1 0 67108864).bind fun r1 =>
  (leatref36_keep N a0.2.2.1 1 1125899906842624).bind fun r2 =>
  (leatref36_keep N a0.2.2.2.1 0 17179869184).bind fun r3 =>
  (leatref36_keep N a0.2.2.2.2.1 0 17179869184).bind fun r4 =>
  (leatref36_keep N a0.2.2.2.2.2.1 0 65536).bind fun r5 =>
  (leatref36_keep N a0.2.2.2.2.2.2.1 0 67108864).bind fun r6 =>
  (leatref36_keep N a0.2.2.2.2.2.2.2 0 67108864).bind fun r7 =>
  some (r0, (r1, (r2, (r3, (r4, (r5, (r6, r7)))))))

def leatref50_Limit (N : Nat) (x : (((Ti10 × Unit) × Unit) × ((List Int) × Unit))) : Option (((Ti10 × Unit) × Unit) × ((List Int) × Unit)) :=
  (leatref50_keep N x.1.1.1.1 100000 1099511627776).bind fun r0 =>
  (leatref50_keep N x.1.1.1.2.1 0 16777216).bind fun r1 =>
  (leatref36_Limit N x.1.1.1.2.2).bind fun r2 =>
  bif (decide (r2.2.2.1 < 1000)) then
    some ((((r0, (r1, (r2.1, (r2.2.1, (1000, r2.2.2.2))))), ()), ()), (x.2.1, ()))
  else
    some ((((r0, (r1, r2)), ()), ()), (x.2.1, ()))

def leatref50_Clean (N : Nat) (a0 : Ti5) : Option Ti5 :=
  (leatref50_keep N a0.2.2.1 1 65536).bind fun r0 =>
  (leatref50_keep N a0.2.2.2.2 0 67108864).bind fun r1 =>
  some (a0.1, (a0.2.1, (r0, (a0.2.2.2.1, r1))))

def leatref37_keep (_N : Nat) (a0 : Int) (a1 : Int) (a2 : Int) : Option Int :=
  some (imn (imx a0 a1) a2)

def leatref37_Span (N : Nat) (a0 : Int) (a1 : Int) : Option Int :=
  (leatref37_keep N a1 1 1099511627776).bind fun r0 =>
  (leatref37_keep N a0 1 65536).bind fun r1 =>
  bif (! (decide (r0 = 0))) then
    some (IntKind.wrap .i64 (Int.tdiv (IntKind.wrap .i64 ((IntKind.wrap .i64 ((IntKind.wrap .i64 (r1 * 1000000)) + r0)) - 1)) r0))
  else
    none

def chain_Run_1_L1 (_N : Nat) (F : ((Int × (Int × (Int × Unit))) × (Unit × ((List Ti7) × ((List Ti5) × Unit)))) → Option (Unit × (Unit × ((List Ti7) × Unit)))) (x : ((Int × (Int × (Int × Unit))) × (Unit × ((List Ti7) × ((List Ti5) × Unit))))) : Option (Unit × (Unit × ((List Ti7) × Unit))) :=
  bif (decide (x.1.2.2.1 < x.1.2.1)) then
    bif ((decide ((0 : Int) ≤ x.1.2.2.1)) && (decide (x.1.2.2.1 < (((x.2.2.2.1).length : Nat) : Int)))) then
      bif ((decide ((0 : Int) ≤ (x.2.2.2.1.getD (x.1.2.2.1 : Int).toNat (0, (0, (0, (0, 0))))).2.1)) && (decide ((x.2.2.2.1.getD (x.1.2.2.1 : Int).toNat (0, (0, (0, (0, 0))))).2.1 < (((x.2.2.1).length : Nat) : Int)))) then
        F ((x.1.1, (x.1.2.1, ((IntKind.wrap .i64 (x.1.2.2.1 + 1)), ()))), ((), ((((x.2.2.1.set ((x.2.2.2.1.getD (x.1.2.2.1 : Int).toNat (0, (0, (0, (0, 0))))).2.1 : Int).toNat ((x.2.2.1.getD ((x.2.2.2.1.getD (x.1.2.2.1 : Int).toNat (0, (0, (0, (0, 0))))).2.1 : Int).toNat (0, (0, (0, (0, (0, (0, 0))))))).1, ((x.2.2.1.getD ((x.2.2.2.1.getD (x.1.2.2.1 : Int).toNat (0, (0, (0, (0, 0))))).2.1 : Int).toNat (0, (0, (0, (0, (0, (0, 0))))))).2.1, ((x.2.2.1.getD ((x.2.2.2.1.getD (x.1.2.2.1 : Int).toNat (0, (0, (0, (0, 0))))).2.1 : Int).toNat (0, (0, (0, (0, (0, (0, 0))))))).2.2.1, ((x.2.2.2.1.getD (x.1.2.2.1 : Int).toNat (0, (0, (0, (0, 0))))).2.2.2.1, (x.2.2.1.getD ((x.2.2.2.1.getD (x.1.2.2.1 : Int).toNat (0, (0, (0, (0, 0))))).2.1 : Int).toNat (0, (0, (0, (0, (0, (0, 0))))))).2.2.2.2))))).set ((x.2.2.2.1.getD (x.1.2.2.1 : Int).toNat (0, (0, (0, (0, 0))))).2.1 : Int).toNat (((x.2.2.1.set ((x.2.2.2.1.getD (x.1.2.2.1 : Int).toNat (0, (0, (0, (0, 0))))).2.1 : Int).toNat ((x.2.2.1.getD ((x.2.2.2.1.getD (x.1.2.2.1 : Int).toNat (0, (0, (0, (0, 0))))).2.1 : Int).toNat (0, (0, (0, (0, (0, (0, 0))))))).1, ((x.2.2.1.getD ((x.2.2.2.1.getD (x.1.2.2.1 : Int).toNat (0, (0, (0, (0, 0))))).2.1 : Int).toNat (0, (0, (0, (0, (0, (0, 0))))))).2.1, ((x.2.2.1.getD ((x.2.2.2.1.getD (x.1.2.2.1 : Int).toNat (0, (0, (0, (0, 0))))).2.1 : Int).toNat (0, (0, (0, (0, (0, (0, 0))))))).2.2.1, ((x.2.2.2.1.getD (x.1.2.2.1 : Int).toNat (0, (0, (0, (0, 0))))).2.2.2.1, (x.2.2.1.getD ((x.2.2.2.1.getD (x.1.2.2.1 : Int).toNat (0, (0, (0, (0, 0))))).2.1 : Int).toNat (0, (0, (0, (0, (0, (0, 0))))))).2.2.2.2))))).getD ((x.2.2.2.1.getD (x.1.2.2.1 : Int).toNat (0, (0, (0, (0, 0))))).2.1 : Int).toNat (0, (0, (0, (0, (0, (0, 0))))))).1, (((x.2.2.1.set ((x.2.2.2.1.getD (x.1.2.2.1 : Int).toNat (0, (0, (0, (0, 0))))).2.1 : Int).toNat ((x.2.2.1.getD ((x.2.2.2.1.getD (x.1.2.2.1 : Int).toNat (0, (0, (0, (0, 0))))).2.1 : Int).toNat (0, (0, (0, (0, (0, (0, 0))))))).1, ((x.2.2.1.getD ((x.2.2.2.1.getD (x.1.2.2.1 : Int).toNat (0, (0, (0, (0, 0))))).2.1 : Int).toNat (0, (0, (0, (0, (0, (0, 0))))))).2.1, ((x.2.2.1.getD ((x.2.2.2.1.getD (x.1.2.2.1 : Int).toNat (0, (0, (0, (0, 0))))).2.1 : Int).toNat (0, (0, (0, (0, (0, (0, 0))))))).2.2.1, ((x.2.2.2.1.getD (x.1.2.2.1 : Int).toNat (0, (0, (0, (0, 0))))).2.2.2.1, (x.2.2.1.getD ((x.2.2.2.1.getD (x.1.2.2.1 : Int).toNat (0, (0, (0, (0, 0))))).2.1 : Int).toNat (0, (0, (0, (0, (0, (0, 0))))))).2.2.2.2))))).getD ((x.2.2.2.1.getD (x.1.2.2.1 : Int).toNat (0, (0, (0, (0, 0))))).2.1 : Int).toNat (0, (0, (0, (0, (0, (0, 0))))))).2.1, (((x.2.2.1.set ((x.2.2.2.1.getD (x.1.2.2.1 : Int).toNat (0, (0, (0, (0, 0))))).2.1 : Int).toNat ((x.2.2.1.getD ((x.2.2.2.1.getD (x.1.2.2.1 : Int).toNat (0, (0, (0, (0, 0))))).2.1 : Int).toNat (0, (0, (0, (0, (0, (0, 0))))))).1, ((x.2.2.1.getD ((x.2.2.2.1.getD (x.1.2.2.1 : Int).toNat (0, (0, (0, (0, 0))))).2.1 : Int).toNat (0, (0, (0, (0, (0, (0, 0))))))).2.1, ((x.2.2.1.getD ((x.2.2.2.1.getD (x.1.2.2.1 : Int).toNat (0, (0, (0, (0, 0))))).2.1 : Int).toNat (0, (0, (0, (0, (0, (0, 0))))))).2.2.1, ((x.2.2.2.1.getD (x.1.2.2.1 : Int).toNat (0, (0, (0, (0, 0))))).2.2.2.1, (x.2.2.1.getD ((x.2.2.2.1.getD (x.1.2.2.1 : Int).toNat (0, (0, (0, (0, 0))))).2.1 : Int).toNat (0, (0, (0, (0, (0, (0, 0))))))).2.2.2.2))))).getD ((x.2.2.2.1.getD (x.1.2.2.1 : Int).toNat (0, (0, (0, (0, 0))))).2.1 : Int).toNat (0, (0, (0, (0, (0, (0, 0))))))).2.2.1, (((x.2.2.1.set ((x.2.2.2.1.getD (x.1.2.2.1 : Int).toNat (0, (0, (0, (0, 0))))).2.1 : Int).toNat ((x.2.2.1.getD ((x.2.2.2.1.getD (x.1.2.2.1 : Int).toNat (0, (0, (0, (0, 0))))).2.1 : Int).toNat (0, (0, (0, (0, (0, (0, 0))))))).1, ((x.2.2.1.getD ((x.2.2.2.1.getD (x.1.2.2.1 : Int).toNat (0, (0, (0, (0, 0))))).2.1 : Int).toNat (0, (0, (0, (0, (0, (0, 0))))))).2.1, ((x.2.2.1.getD ((x.2.2.2.1.getD (x.1.2.2.1 : Int).toNat (0, (0, (0, (0, 0))))).2.1 : Int).toNat (0, (0, (0, (0, (0, (0, 0))))))).2.2.1, ((x.2.2.2.1.getD (x.1.2.2.1 : Int).toNat (0, (0, (0, (0, 0))))).2.2.2.1, (x.2.2.1.getD ((x.2.2.2.1.getD (x.1.2.2.1 : Int).toNat (0, (0, (0, (0, 0))))).2.1 : Int).toNat (0, (0, (0, (0, (0, (0, 0))))))).2.2.2.2))))).getD ((x.2.2.2.1.getD (x.1.2.2.1 : Int).toNat (0, (0, (0, (0, 0))))).2.1 : Int).toNat (0, (0, (0, (0, (0, (0, 0))))))).2.2.2.1, (((x.2.2.1.set ((x.2.2.2.1.getD (x.1.2.2.1 : Int).toNat (0, (0, (0, (0, 0))))).2.1 : Int).toNat ((x.2.2.1.getD ((x.2.2.2.1.getD (x.1.2.2.1 : Int).toNat (0, (0, (0, (0, 0))))).2.1 : Int).toNat (0, (0, (0, (0, (0, (0, 0))))))).1, ((x.2.2.1.getD ((x.2.2.2.1.getD (x.1.2.2.1 : Int).toNat (0, (0, (0, (0, 0))))).2.1 : Int).toNat (0, (0, (0, (0, (0, (0, 0))))))).2.1, ((x.2.2.1.getD ((x.2.2.2.1.getD (x.1.2.2.1 : Int).toNat (0, (0, (0, (0, 0))))).2.1 : Int).toNat (0, (0, (0, (0, (0, (0, 0))))))).2.2.1, ((x.2.2.2.1.getD (x.1.2.2.1 : Int).toNat (0, (0, (0, (0, 0))))).2.2.2.1, (x.2.2.1.getD ((x.2.2.2.1.getD (x.1.2.2.1 : Int).toNat (0, (0, (0, (0, 0))))).2.1 : Int).toNat (0, (0, (0, (0, (0, (0, 0))))))).2.2.2.2))))).getD ((x.2.2.2.1.getD (x.1.2.2.1 : Int).toNat (0, (0, (0, (0, 0))))).2.1 : Int).toNat (0, (0, (0, (0, (0, (0, 0))))))).2.2.2.2.1, ((x.2.2.2.1.getD (x.1.2.2.1 : Int).toNat (0, (0, (0, (0, 0))))).2.2.2.2, ((x.2.2.1.set ((x.2.2.2.1.getD (x.1.2.2.1 : Int).toNat (0, (0, (0, (0, 0))))).2.1 : Int).toNat ((x.2.2.1.getD ((x.2.2.2.1.getD (x.1.2.2.1 : Int).toNat (0, (0, (0, (0, 0))))).2.1 : Int).toNat (0, (0, (0, (0, (0, (0, 0))))))).1, ((x.2.2.1.getD ((x.2.2.2.1.getD (x.1.2.2.1 : Int).toNat (0, (0, (0, (0, 0))))).2.1 : Int).toNat (0, (0, (0, (0, (0, (0, 0))))))).2.1, ((x.2.2.1.getD ((x.2.2.2.1.getD (x.1.2.2.1 : Int).toNat (0, (0, (0, (0, 0))))).2.1 : Int).toNat (0, (0, (0, (0, (0, (0, 0))))))).2.2.1, ((x.2.2.2.1.getD (x.1.2.2.1 : Int).toNat (0, (0, (0, (0, 0))))).2.2.2.1, (x.2.2.1.getD ((x.2.2.2.1.getD (x.1.2.2.1 : Int).toNat (0, (0, (0, (0, 0))))).2.1 : Int).toNat (0, (0, (0, (0, (0, (0, 0))))))).2.2.2.2))))).getD ((x.2.2.2.1.getD (x.1.2.2.1 : Int).toNat (0, (0, (0, (0, 0))))).2.1 : Int).toNat (0, (0, (0, (0, (0, (0, 0))))))).2.2.2.2.2.2))))))).set ((x.2.2.2.1.getD (x.1.2.2.1 : Int).toNat (0, (0, (0, (0, 0))))).2.1 : Int).toNat ((((x.2.2.1.set ((x.2.2.2.1.getD (x.1.2.2.1 : Int).toNat (0, (0, (0, (0, 0))))).2.1 : Int).toNat ((x.2.2.1.getD ((x.2.2.2.1.getD (x.1.2.2.1 : Int).toNat (0, (0, (0, (0, 0))))).2.1 : Int).toNat (0, (0, (0, (0, (0, (0, 0))))))).1, ((x.2.2.1.getD ((x.2.2.2.1.getD (x.1.2.2.1 : Int).toNat (0, (0, (0, (0, 0))))).2.1 : Int).toNat (0, (0, (0, (0, (0, (0, 0))))))).2.1, ((x.2.2.1.getD ((x.2.2.2.1.getD (x.1.2.2.1 : Int).toNat (0, (0, (0, (0, 0))))).2.1 : Int).toNat (0, (0, (0, (0, (0, (0, 0))))))).2.2.1, ((x.2.2.2.1.getD (x.1.2.2.1 : Int).toNat (0, (0, (0, (0, 0))))).2.2.2.1, (x.2.2.1.getD ((x.2.2.2.1.getD (x.1.2.2.1 : Int).toNat (0, (0, (0, (0, 0))))).2.1 : Int).toNat (0, (0, (0, (0, (0, (0, 0))))))).2.2.2.2))))).set ((x.2.2.2.1.getD (x.1.2.2.1 : Int).toNat (0, (0, (0, (0, 0))))).2.1 : Int).toNat (((x.2.2.1.set ((x.2.2.2.1.getD (x.1.2.2.1 : Int).toNat (0, (0, (0, (0, 0))))).2.1 : Int).toNat ((x.2.2.1.getD ((x.2.2.2.1.getD (x.1.2.2.1 : Int).toNat (0, (0, (0, (0, 0))))).2.1 : Int).toNat (0, (0, (0, (0, (0, (0, 0))))))).1, ((x.2.2.1.getD ((x.2.2.2.1.getD (x.1.2.2.1 : Int).toNat (0, (0, (0, (0, 0))))).2.1 : Int).toNat (0, (0, (0, (0, (0, (0, 0))))))).2.1, ((x.2.2.1.getD ((x.2.2.2.1.getD (x.1.2.2.1 : Int).toNat (0, (0, (0, (0, 0))))).2.1 : Int).toNat (0, (0, (0, (0, (0, (0, 0))))))).2.2.1, ((x.2.2.2.1.getD (x.1.2.2.1 : Int).toNat (0, (0, (0, (0, 0))))).2.2.2.1, (x.2.2.1.getD ((x.2.2.2.1.getD (x.1.2.2.1 : Int).toNat (0, (0, (0, (0, 0))))).2.1 : Int).toNat (0, (0, (0, (0, (0, (0, 0))))))).2.2.2.2))))).getD ((x.2.2.2.1.getD (x.1.2.2.1 : Int).toNat (0, (0, (0, (0, 0))))).2.1 : Int).toNat (0, (0, (0, (0, (0, (0, 0))))))).1, (((x.2.2.1.set ((x.2.2.2.1.getD (x.1.2.2.1 : Int).toNat (0, (0, (0, (0, 0))))).2.1 : Int).toNat ((x.2.2.1.getD ((x.2.2.2.1.getD (x.1.2.2.1 : Int).toNat (0, (0, (0, (0, 0))))).2.1 : Int).toNat (0, (0, (0, (0, (0, (0, 0))))))).1, ((x.2.2.1.getD ((x.2.2.2.1.getD (x.1.2.2.1 : Int).toNat (0, (0, (0, (0, 0))))).2.1 : Int).toNat (0, (0, (0, (0, (0, (0, 0))))))).2.1, ((x.2.2.1.getD ((x.2.2.2.1.getD (x.1.2.2.1 : Int).toNat (0, (0, (0, (0, 0))))).2.1 : Int).toNat (0, (0, (0, (0, (0, (0, 0))))))).2.2.1, ((x.2.2.2.1.getD (x.1.2.2.1 : Int).toNat (0, (0, (0, (0, 0))))).2.2.2.1, (x.2.2.1.getD ((x.2.2.2.1.getD (x.1.2.2.1 : Int).toNat (0, (0, (0, (0, 0))))).2.1 : Int).toNat (0, (0, (0, (0, (0, (0, 0))))))).2.2.2.2))))).getD ((x.2.2.2.1.getD (x.1.2.2.1 : Int).toNat (0, (0, (0, (0, 0))))).2.1 : Int).toNat (0, (0, (0, (0, (0, (0, 0))))))).2.1, (((x.2.2.1.set ((x.2.2.2.1.getD (x.1.2.2.1 : Int).toNat (0, (0, (0, (0, 0))))).2.1 : Int).toNat ((x.2.2.1.getD ((x.2.2.2.1.getD (x.1.2.2.1 : Int).toNat (0, (0, (0, (0, 0))))).2.1 : Int).toNat (0, (0, (0, (0, (0, (0, 0))))))).1, ((x.2.2.1.getD ((x.2.2.2.1.getD (x.1.2.2.1 : Int).toNat (0, (0, (0, (0, 0))))).2.1 : Int).toNat (0, (0, (0, (0, (0, (0, 0))))))).2.1, ((x.2.2.1.getD ((x.2.2.2.1.getD (x.1.2.2.1 : Int).toNat (0, (0, (0, (0, 0))))).2.1 : Int).toNat (0, (0, (0, (0, (0, (0, 0))))))).2.2.1, ((x.2.2.2.1.getD (x.1.2.2.1 : Int).toNat (0, (0, (0, (0, 0))))).2.2.2.1, (x.2.2.1.getD ((x.2.2.2.1.getD (x.1.2.2.1 : Int).toNat (0, (0, (0, (0, 0))))).2.1 : Int).toNat (0, (0, (0, (0, (0, (0, 0))))))).2.2.2.2))))).getD ((x.2.2.2.1.getD (x.1.2.2.1 : Int).toNat (0, (0, (0, (0, 0))))).2.1 : Int).toNat (0, (0, (0, (0, (0, (0, 0))))))).2.2.1, (((x.2.2.1.set ((x.2.2.2.1.getD (x.1.2.2.1 : Int).toNat (0, (0, (0, (0, 0))))).2.1 : Int).toNat ((x.2.2.1.getD ((x.2.2.2.1.getD (x.1.2.2.1 : Int).toNat (0, (0, (0, (0, 0))))).2.1 : Int).toNat (0, (0, (0, (0, (0, (0, 0))))))).1, ((x.2.2.1.getD ((x.2.2.2.1.getD (x.1.2.2.1 : Int).toNat (0, (0, (0, (0, 0))))).2.1 : Int).toNat (0, (0, (0, (0, (0, (0, 0))))))).2.1, ((x.2.2.1.getD ((x.2.2.2.1.getD (x.1.2.2.1 : Int).toNat (0, (0, (0, (0, 0))))).2.1 : Int).toNat (0, (0, (0, (0, (0, (0, 0))))))).2.2.1, ((x.2.2.2.1.getD (x.1.2.2.1 : Int).toNat (0, (0, (0, (0, 0))))).2.2.2.1, (x.2.2.1.getD ((x.2.2.2.1.getD (x.1.2.2.1 : Int).toNat (0, (0, (0, (0, 0))))).2.1 : Int).toNat (0, (0, (0, (0, (0, (0, 0))))))).2.2.2.2))))).getD ((x.2.2.2.1.getD (x.1.2.2.1 : Int).toNat (0, (0, (0, (0, 0))))).2.1 : Int).toNat (0, (0, (0, (0, (0, (0, 0))))))).2.2.2.1, (((x.2.2.1.set ((x.2.2.2.1.getD (x.1.2.2.1 : Int).toNat (0, (0, (0, (0, 0))))).2.1 : Int).toNat ((x.2.2.1.getD ((x.2.2.2.1.getD (x.1.2.2.1 : Int).toNat (0, (0, (0, (0, 0))))).2.1 : Int).toNat (0, (0, (0, (0, (0, (0, 0))))))).1, ((x.2.2.1.getD ((x.2.2.2.1.getD (x.1.2.2.1 : Int).toNat (0, (0, (0, (0, 0))))).2.1 : Int).toNat (0, (0, (0, (0, (0, (0, 0))))))).2.1, ((x.2.2.1.getD ((x.2.2.2.1.getD (x.1.2.2.1 : Int).toNat (0, (0, (0, (0, 0))))).2.1 : Int).toNat (0, (0, (0, (0, (0, (0, 0))))))).2.2.1, ((x.2.2.2.1.getD (x.1.2.2.1 : Int).toNat (0, (0, (0, (0, 0))))).2.2.2.1, (x.2.2.1.getD ((x.2.2.2.1.getD (x.1.2.2.1 : Int).toNat (0, (0, (0, (0, 0))))).2.1 : Int).toNat (0, (0, (0, (0, (0, (0, 0))))))).2.2.2.2))))).getD ((x.2.2.2.1.getD (x.1.2.2.1 : Int).toNat (0, (0, (0, (0, 0))))).2.1 : Int).toNat (0, (0, (0, (0, (0, (0, 0))))))).2.2.2.2.1, ((x.2.2.2.1.getD (x.1.2.2.1 : Int).toNat (0, (0, (0, (0, 0))))).2.2.2.2, ((x.2.2.1.set ((x.2.2.2.1.getD (x.1.2.2.1 : Int).toNat (0, (0, (0, (0, 0))))).2.1 : Int).toNat ((x.2.2.1.getD ((x.2.2.2.1.getD (x.1.2.2.1 : Int).toNat (0, (0, (0, (0, 0))))).2.1 : Int).toNat (0, (0, (0, (0, (0, (0, 0))))))).1, ((x.2.2.1.getD ((x.2.2.2.1.getD (x.1.2.2.1 : Int).toNat (0, (0, (0, (0, 0))))).2.1 : Int).toNat (0, (0, (0, (0, (0, (0, 0))))))).2.1, ((x.2.2.1.getD ((x.2.2.2.1.getD (x.1.2.2.1 : Int).toNat (0, (0, (0, (0, 0))))).2.1 : Int).toNat (0, (0, (0, (0, (0, (0, 0))))))).2.2.1, ((x.2.2.2.1.getD (x.1.2.2.1 : Int).toNat (0, (0, (0, (0, 0))))).2.2.2.1, (x.2.2.1.getD ((x.2.2.2.1.getD (x.1.2.2.1 : Int).toNat (0, (0, (0, (0, 0))))).2.1 : Int).toNat (0, (0, (0, (0, (0, (0, 0))))))).2.2.2.2))))).getD ((x.2.2.2.1.getD (x.1.2.2.1 : Int).toNat (0, (0, (0, (0, 0))))).2.1 : Int).toNat (0, (0, (0, (0, (0, (0, 0))))))).2.2.2.2.2.2))))))).getD ((x.2.2.2.1.getD (x.1.2.2.1 : Int).toNat (0, (0, (0, (0, 0))))).2.1 : Int).toNat (0, (0, (0, (0, (0, (0, 0))))))).1, ((((x.2.2.1.set ((x.2.2.2.1.getD (x.1.2.2.1 : Int).toNat (0, (0, (0, (0, 0))))).2.1 : Int).toNat ((x.2.2.1.getD ((x.2.2.2.1.getD (x.1.2.2.1 : Int).toNat (0, (0, (0, (0, 0))))).2.1 : Int).toNat (0, (0, (0, (0, (0, (0, 0))))))).1, ((x.2.2.1.getD ((x.2.2.2.1.getD (x.1.2.2.1 : Int).toNat (0, (0, (0, (0, 0))))).2.1 : Int).toNat (0, (0, (0, (0, (0, (0, 0))))))).2.1, ((x.2.2.1.getD ((x.2.2.2.1.getD (x.1.2.2.1 : Int).toNat (0, (0, (0, (0, 0))))).2.1 : Int).toNat (0, (0, (0, (0, (0, (0, 0))))))).2.2.1, ((x.2.2.2.1.getD (x.1.2.2.1 : Int).toNat (0, (0, (0, (0, 0))))).2.2.2.1, (x.2.2.1.getD ((x.2.2.2.1.getD (x.1.2.2.1 : Int).toNat (0, (0, (0, (0, 0))))).2.1 : Int).toNat (0, (0, (0, (0, (0, (0, 0))))))).2.2.2.2))))).set ((x.2.2.2.1.getD (x.1.2.2.1 : Int).toNat (0, (0, (0, (0, 0))))).2.1 : Int).toNat (((x.2.2.1.set ((x.2.2.2.1.getD (x.1.2.2.1 : Int).toNat (0, (0, (0, (0, 0))))).2.1 : Int).toNat ((x.2.2.1.getD ((x.2.2.2.1.getD (x.1.2.2.1 : Int).toNat (0, (0, (0, (0, 0))))).2.1 : Int).toNat (0, (0, (0, (0, (0, (0, 0))))))).1, ((x.2.2.1.getD ((x.2.2.2.1.getD (x.1.2.2.1 : Int).toNat (0, (0, (0, (0, 0))))).2.1 : Int).toNat (0, (0, (0, (0, (0, (0, 0))))))).2.1, ((x.2.2.1.getD ((x.2.2.2.1.getD (x.1.2.2.1 : Int).toNat (0, (0, (0, (0, 0))))).2.1 : Int).toNat (0, (0, (0, (0, (0, (0, 0))))))).2.2.1, ((x.2.2.2.1.getD (x.1.2.2.1 : Int).toNat (0, (0, (0, (0, 0))))).2.2.2.1, (x.2.2.1.getD ((x.2.2.2.1.getD (x.1.2.2.1 : Int).toNat (0, (0, (0, (0, 0))))).2.1 : Int).toNat (0, (0, (0, (0, (0, (0, 0))))))).2.2.2.2))))).getD ((x.2.2.2.1.getD (x.1.2.2.1 : Int).toNat (0, (0, (0, (0, 0))))).2.1 : Int).toNat (0, (0, (0, (0, (0, (0, 0))))))).1, (((x.2.2.1.set ((x.2.2.2.1.getD (x.1.2.2.1 : Int).toNat (0, (0, (0, (0, 0))))).2.1 : Int).toNat ((x.2.2.1.getD ((x.2.2.2.1.getD (x.1.2.2.1 : Int).toNat (0, (0, (0, (0, 0))))).2.1 : Int).toNat (0, (0, (0, (0, (0, (0, 0))))))).1, ((x.2.2.1.getD ((x.2.2.2.1.getD (x.1.2.2.1 : Int).toNat (0, (0, (0, (0, 0))))).2.1 : Int).toNat (0, (0, (0, (0, (0, (0, 0))))))).2.1, ((x.2.2.1.getD ((x.2.2.2.1.getD (x.1.2.2.1 : Int).toNat (0, (0, (0, (0, 0))))).2.1 : Int).toNat (0, (0, (0, (0, (0, (0, 0))))))).2.2.1, ((x.2.2.2.1.getD (x.1.2.2.1 : Int).toNat (0, (0, (0, (0, 0))))).2.2.2.1, (x.2.2.1.getD ((x.2.2.2.1.getD (x.1.2.2.1 : Int).toNat (0, (0, (0, (0, 0))))).2.1 : Int).toNat (0, (0, (0, (0, (0, (0, 0))))))).2.2.2.2))))).getD ((x.2.2.2.1.getD (x.1.2.2.1 : Int).toNat (0, (0, (0, (0, 0))))).2.1 : Int).toNat (0, (0, (0, (0, (0, (0, 0))))))).2.1, (((x.2.2.1.set ((x.2.2.2.1.getD (x.1.2.2.1 : Int).toNat (0, (0, (0, (0, 0))))).2.1 : Int).toNat ((x.2.2.1.getD ((x.2.2.2.1.getD (x.1.2.2.1 : Int).toNat (0, (0, (0, (0, 0))))).2.1 : Int).toNat (0, (0, (0, (0, (0, (0, 0))))))).1, ((x.2.2.1.getD ((x.2.2.2.1.getD (x.1.2.2.1 : Int).toNat (0, (0, (0, (0, 0))))).2.1 : Int).toNat (0, (0, (0, (0, (0, (0, 0))))))).2.1, ((x.2.2.1.getD ((x.2.2.2.1.getD (x.1.2.2.1 : Int).toNat (0, (0, (0, (0, 0))))).2.1 : Int).toNat (0, (0, (0, (0, (0, (0, 0))))))).2.2.1, ((x.2.2.2.1.getD (x.1.2.2.1 : Int).toNat (0, (0, (0, (0, 0))))).2.2.2.1, (x.2.2.1.getD ((x.2.2.2.1.getD (x.1.2.2.1 : Int).toNat (0, (0, (0, (0, 0))))).2.1 : Int).toNat (0, (0, (0, (0, (0, (0, 0))))))).2.2.2.2))))).getD ((x.2.2.2.1.getD (x.1.2.2.1 : Int).toNat (0, (0, (0, (0, 0))))).2.1 : Int).toNat (0, (0, (0, (0, (0, (0, 0))))))).2.2.1, (((x.2.2.1.set ((x.2.2.2.1.getD (x.1.2.2.1 : Int).toNat (0, (0, (0, (0, 0))))).2.1 : Int).toNat ((x.2.2.1.getD ((x.2.2.2.1.getD (x.1.2.2.1 : Int).toNat (0, (0, (0, (0, 0))))).2.1 : Int).toNat (0, (0, (0, (0, (0, (0, 0))))))).1, ((x.2.2.1.getD ((x.2.2.2.1.getD (x.1.2.2.1 : Int).toNat (0, (0, (0, (0, 0))))).2.1 : Int).toNat (0, (0, (0, (0, (0, (0, 0))))))).2.1, ((x.2.2.1.getD ((x.2.2.2.1.getD (x.1.2.2.1 : Int).toNat (0, (0, (0, (0, 0))))).2.1 : Int).toNat (0, (0, (0, (0, (0, (0, 0))))))).2.2.1, ((x.2.2.2.1.getD (x.1.2.2.1 : Int).toNat (0, (0, (0, (0, 0))))).2.2.2.1, (x.2.2.1.getD ((x.2.2.2.1.getD (x.1.2.2.1 : Int).toNat (0, (0, (0, (0, 0))))).2.1 : Int).toNat (0, (0, (0, (0, (0, (0, 0))))))).2.2.2.2))))).getD ((x.2.2.2.1.getD (x.1.2.2.1 : Int).toNat (0, (0, (0, (0, 0))))).2.1 : Int).toNat (0, (0, (0, (0, (0, (0, 0))))))).2.2.2.1, (((x.2.2.1.set ((x.2.2.2.1.getD (x.1.2.2.1 : Int).toNat (0, (0, (0, (0, 0))))).2.1 : Int).toNat ((x.2.2.1.getD ((x.2.2.2.1.getD (x.1.2.2.1 : Int).toNat (0, (0, (0, (0, 0))))).2.1 : Int).toNat (0, (0, (0, (0, (0, (0, 0))))))).1, ((x.2.2.1.getD ((x.2.2.2.1.getD (x.1.2.2.1 : Int).toNat (0, (0, (0, (0, 0))))).2.1 : Int).toNat (0, (0, (0, (0, (0, (0, 0))))))).2.1, ((x.2.2.1.getD ((x.2.2.2.1.getD (x.1.2.2.1 : Int).toNat (0, (0, (0, (0, 0))))).2.1 : Int).toNat (0, (0, (0, (0, (0, (0, 0))))))).2.2.1, ((x.2.2.2.1.getD (x.1.2.2.1 : Int).toNat (0, (0, (0, (0, 0))))).2.2.2.1, (x.2.2.1.getD ((x.2.2.2.1.getD (x.1.2.2.1 : Int).toNat (0, (0, (0, (0, 0))))).2.1 : Int).toNat (0, (0, (0, (0, (0, (0, 0))))))).2.2.2.2))))).getD ((x.2.2.2.1.getD (x.1.2.2.1 : Int).toNat (0, (0, (0, (0, 0))))).2.1 : Int).toNat (0, (0, (0, (0, (0, (0, 0))))))).2.2.2.2.1, ((x.2.2.2.1.getD (x.1.2.2.1 : Int).toNat (0, (0, (0, (0, 0))))).2.2.2.2, ((x.2.2.1.set ((x.2.2.2.1.getD (x.1.2.2.1 : Int).toNat (0, (0, (0, (0, 0))))).2.1 : Int).toNat ((x.2.2.1.getD ((x.2.2.2.1.getD (x.1.2.2.1 : Int).toNat (0, (0, (0, (0, 0))))).2.1 : Int).toNat (0, (0, (0, (0, (0, (0, 0))))))).1, ((x.2.2.1.getD ((x.2.2.2.1.getD (x.1.2.2.1 : Int).toNat (0, (0, (0, (0, 0))))).2.1 : Int).toNat (0, (0, (0, (0, (0, (0, 0))))))).2.1, ((x.2.2.1.getD ((x.2.2.2.1.getD (x.1.2.2.1 : Int).toNat (0, (0, (0, (0, 0))))).2.1 : Int).toNat (0, (0, (0, (0, (0, (0, 0))))))).2.2.1, ((x.2.2.2.1.getD (x.1.2.2.1 : Int).toNat (0, (0, (0, (0, 0))))).2.2.2.1, (x.2.2.1.getD ((x.2.2.2.1.getD (x.1.2.2.1 : Int).toNat (0, (0, (0, (0, 0))))).2.1 : Int).toNat (0, (0, (0, (0, (0, (0, 0))))))).2.2.2.2))))).getD ((x.2.2.2.1.getD (x.1.2.2.1 : Int).toNat (0, (0, (0, (0, 0))))).2.1 : Int).toNat (0, (0, (0, (0, (0, (0, 0))))))).2.2.2.2.2.2))))))).getD ((x.2.2.2.1.getD (x.1.2.2.1 : Int).toNat (0, (0, (0, (0, 0))))).2.1 : Int).toNat (0, (0, (0, (0, (0, (0, 0))))))).2.1, ((((x.2.2.1.set ((x.2.2.2.1.getD (x.1.2.2.1 : Int).toNat (0, (0, (0, (0, 0))))).2.1 : Int).toNat ((x.2.2.1.getD ((x.2.2.2.1.getD (x.1.2.2.1 : Int).toNat (0, (0, (0, (0, 0))))).2.1 : Int).toNat (0, (0, (0, (0, (0, (0, 0))))))).1, ((x.2.2.1.getD ((x.2.2.2.1.getD (x.1.2.2.1 : Int).toNat (0, (0, (0, (0, 0))))).2.1 : Int).toNat (0, (0, (0, (0, (0, (0, 0))))))).2.1, ((x.2.2.1.getD ((x.2.2.2.1.getD (x.1.2.2.1 : Int).toNat (0, (0, (0, (0, 0))))).2.1 : Int).toNat (0, (0, (0, (0, (0, (0, 0))))))).2.2.1, ((x.2.2.2.1.getD (x.1.2.2.1 : Int).toNat (0, (0, (0, (0, 0))))).2.2.2.1, (x.2.2.1.getD ((x.2.2.2.1.getD (x.1.2.2.1 : Int).toNat (0, (0, (0, (0, 0))))).2.1 : Int).toNat (0, (0, (0, (0, (0, (0, 0))))))).2.2.2.2))))).set ((x.2.2.2.1.getD (x.1.2.2.1 : Int).toNat (0, (0, (0, (0, 0))))).2.1 : Int).toNat (((x.2.2.1.set ((x.2.2.2.1.getD (x.1.2.2.1 : Int).toNat (0, (0, (0, (0, 0))))).2.1 : Int).toNat ((x.2.2.1.getD ((x.2.2.2.1.getD (x.1.2.2.1 : Int).toNat (0, (0, (0, (0, 0))))).2.1 : Int).toNat (0, (0, (0, (0, (0, (0, 0))))))).1, ((x.2.2.1.getD ((x.2.2.2.1.getD (x.1.2.2.1 : Int).toNat (0, (0, (0, (0, 0))))).2.1 : Int).toNat (0, (0, (0, (0, (0, (0, 0))))))).2.1, ((x.2.2.1.getD ((x.2.2.2.1.getD (x.1.2.2.1 : Int).toNat (0, (0, (0, (0, 0))))).2.1 : Int).toNat (0, (0, (0, (0, (0, (0, 0))))))).2.2.1, ((x.2.2.2.1.getD (x.1.2.2.1 : Int).toNat (0, (0, (0, (0, 0))))).2.2.2.1, (x.2.2.1.getD ((x.2.2.2.1.getD (x.1.2.2.1 : Int).toNat (0, (0, (0, (0, 0))))).2.1 : Int).toNat (0, (0, (0, (0, (0, (0, 0))))))).2.2.2.2))))).getD ((x.2.2.2.1.getD (x.1.2.2.1 : Int).toNat (0, (0, (0, (0, 0))))).2.1 : Int).toNat (0, (0, (0, (0, (0, (0, 0))))))).1, (((x.2.2.1.set ((x.2.2.2.1.getD (x.1.2.2.1 : Int).toNat (0, (0, (0, (0, 0))))).2.1 : Int).toNat ((x.2.2.1.getD ((x.2.2.2.1.getD (x.1.2.2.1 : Int).toNat (0, (0, (0, (0, 0))))).2.1 : Int).toNat (0, (0, (0, (0, (0, (0, 0))))))).1, ((x.2.2.1.getD ((x.2.2.2.1.getD (x.1.2.2.1 : Int).toNat (0, (0, (0, (0, 0))))).2.1 : Int).toNat (0, (0, (0, (0, (0, (0, 0))))))).2.1, ((x.2.2.1.getD ((x.2.2.2.1.getD (x.1.2.2.1 : Int).toNat (0, (0, (0, (0, 0))))).2.1 : Int).toNat (0, (0, (0, (0, (0, (0, 0))))))).2.2.1, ((x.2.2.2.1.getD (x.1.2.2.1 : Int).toNat (0, (0, (0, (0, 0))))).2.2.2.1, (x.2.2.1.getD ((x.2.2.2.1.getD (x.1.2.2.1 : Int).toNat (0, (0, (0, (0, 0))))).2.1 : Int).toNat (0, (0, (0, (0, (0, (0, 0))))))).2.2.2.2))))).getD ((x.2.2.2.1.getD (x.1.2.2.1 : Int).toNat (0, (0, (0, (0, 0))))).2.1 : Int).toNat (0, (0, (0, (0, (0, (0, 0))))))).2.1, (((x.2.2.1.set ((x.2.2.2.1.getD (x.1.2.2.1 : Int).toNat (0, (0, (0, (0, 0))))).2.1 : Int).toNat ((x.2.2.1.getD ((x.2.2.2.1.getD (x.1.2.2.1 : Int).toNat (0, (0, (0, (0, 0))))).2.1 : Int).toNat (0, (0, (0, (0, (0, (0, 0))))))).1, ((x.2.2.1.getD ((x.2.2.2.1.getD (x.1.2.2.1 : Int).toNat (0, (0, (0, (0, 0))))).2.1 : Int).toNat (0, (0, (0, (0, (0, (0, 0))))))).2.1, ((x.2.2.1.getD ((x.2.2.2.1.getD (x.1.2.2.1 : Int).toNat (0, (0, (0, (0, 0))))).2.1 : Int).toNat (0, (0, (0, (0, (0, (0, 0))))))).2.2.1, ((x.2.2.2.1.getD (x.1.2.2.1 : Int).toNat (0, (0, (0, (0, 0))))).2.2.2.1, (x.2.2.1.getD ((x.2.2.2.1.getD (x.1.2.2.1 : Int).toNat (0, (0, (0, (0, 0))))).2.1 : Int).toNat (0, (0, (0, (0, (0, (0, 0))))))).2.2.2.2))))).getD ((x.2.2.2.1.getD (x.1.2.2.1 : Int).toNat (0, (0, (0, (0, 0))))).2.1 : Int).toNat (0, (0, (0, (0, (0, (0, 0))))))).2.2.1, (((x.2.2.1.set ((x.2.2.2.1.getD (x.1.2.2.1 : Int).toNat (0, (0, (0, (0, 0))))).2.1 : Int).toNat ((x.2.2.1.getD ((x.2.2.2.1.getD (x.1.2.2.1 : Int).toNat (0, (0, (0, (0, 0))))).2.1 : Int).toNat (0, (0, (0, (0, (0, (0, 0))))))).1, ((x.2.2.1.getD ((x.2.2.2.1.getD (x.1.2.2.1 : Int).toNat (0, (0, (0, (0, 0))))).2.1 : Int).toNat (0, (0, (0, (0, (0, (0, 0))))))).2.1, ((x.2.2.1.getD ((x.2.2.2.1.getD (x.1.2.2.1 : Int).toNat (0, (0, (0, (0, 0))))).2.1 : Int).toNat (0, (0, (0, (0, (0, (0, 0))))))).2.2.1, ((x.2.2.2.1.getD (x.1.2.2.1 : Int).toNat (0, (0, (0, (0, 0))))).2.2.2.1, (x.2.2.1.getD ((x.2.2.2.1.getD (x.1.2.2.1 : Int).toNat (0, (0, (0, (0, 0))))).2.1 : Int).toNat (0, (0, (0, (0, (0, (0, 0))))))).2.2.2.2))))).getD ((x.2.2.2.1.getD (x.1.2.2.1 : Int).toNat (0, (0, (0, (0, 0))))).2.1 : Int).toNat (0, (0, (0, (0, (0, (0, 0))))))).2.2.2.1, (((x.2.2.1.set ((x.2.2.2.1.getD (x.1.2.2.1 : Int).toNat (0, (0, (0, (0, 0))))).2.1 : Int).toNat ((x.2.2.1.getD ((x.2.2.2.1.getD (x.1.2.2.1 : Int).toNat (0, (0, (0, (0, 0))))).2.1 : Int).toNat (0, (0, (0, (0, (0, (0, 0))))))).1, ((x.2.2.1.getD ((x.2.2.2.1.getD (x.1.2.2.1 : Int).toNat (0, (0, (0, (0, 0))))).2.1 : Int).toNat (0, (0, (0, (0, (0, (0, 0))))))).2.1, ((x.2.2.1.getD ((x.2.2.2.1.getD (x.1.2.2.1 : Int).toNat (0, (0, (0, (0, 0))))).2.1 : Int).toNat (0, (0, (0, (0, (0, (0, 0))))))).2.2.1, ((x.2.2.2.1.getD (x.1.2.2.1 : Int).toNat (0, (0, (0, (0, 0))))).2.2.2.1, (x.2.2.1.getD ((x.2.2.2.1.getD (x.1.2.2.1 : Int).toNat (0, (0, (0, (0, 0))))).2.1 : Int).toNat (0, (0, (0, (0, (0, (0, 0))))))).2.2.2.2))))).getD ((x.2.2.2.1.getD (x.1.2.2.1 : Int).toNat (0, (0, (0, (0, 0))))).2.1 : Int).toNat (0, (0, (0, (0, (0, (0, 0))))))).2.2.2.2.1, ((x.2.2.2.1.getD (x.1.2.2.1 : Int).toNat (0, (0, (0, (0, 0))))).2.2.2.2, ((x.2.2.1.set ((x.2.2.2.1.getD (x.1.2.2.1 : Int).toNat (0, (0, (0, (0, 0))))).2.1 : Int).toNat ((x.2.2.1.getD ((x.2.2.2.1.getD (x.1.2.2.1 : Int).toNat (0, (0, (0, (0, 0))))).2.1 : Int).toNat (0, (0, (0, (0, (0, (0, 0))))))).1, ((x.2.2.1.getD ((x.2.2.2.1.getD (x.1.2.2.1 : Int).toNat (0, (0, (0, (0, 0))))).2.1 : Int).toNat (0, (0, (0, (0, (0, (0, 0))))))).2.1, ((x.2.2.1.getD ((x.2.2.2.1.getD (x.1.2.2.1 : Int).toNat (0, (0, (0, (0, 0))))).2.1 : Int).toNat (0, (0, (0, (0, (0, (0, 0))))))).2.2.1, ((x.2.2.2.1.getD (x.1.2.2.1 : Int).toNat (0, (0, (0, (0, 0))))).2.2.2.1, (x.2.2.1.getD ((x.2.2.2.1.getD (x.1.2.2.1 : Int).toNat (0, (0, (0, (0, 0))))).2.1 : Int).toNat (0, (0, (0, (0, (0, (0, 0))))))).2.2.2.2))))).getD ((x.2.2.2.1.getD (x.1.2.2.1 : Int).toNat (0, (0, (0, (0, 0))))).2.1 : Int).toNat (0, (0, (0, (0, (0, (0, 0))))))).2.2.2.2.2.2))))))).getD ((x.2.2.2.1.getD (x.1.2.2.1 : Int).toNat (0, (0, (0, (0, 0))))).2.1 : Int).toNat (0, (0, (0, (0, (0, (0, 0))))))).2.2.1, ((((x.2.2.1.set ((x.2.2.2.1.getD (x.1.2.2.1 : Int).toNat (0, (0, (0, (0, 0))))).2.1 : Int).toNat ((x.2.2.1.getD ((x.2.2.2.1.getD (x.1.2.2.1 : Int).toNat (0, (0, (0, (0, 0))))).2.1 : Int).toNat (0, (0, (0, (0, (0, (0, 0))))))).1, ((x.2.2.1.getD ((x.2.2.2.1.getD (x.1.2.2.1 : Int).toNat (0, (0, (0, (0, 0))))).2.1 : Int).toNat (0, (0, (0, (0, (0, (0, 0))))))).2.1, ((x.2.2.1.getD ((x.2.2.2.1.getD (x.1.2.2.1 : Int).toNat (0, (0, (0, (0, 0))))).2.1 : Int).toNat (0, (0, (0, (0, (0, (0, 0))))))).2.2.1, ((x.2.2.2.1.getD (x.1.2.2.1 : Int).toNat (0, (0, (0, (0, 0))))).2.2.2.1, (x.2.2.1.getD ((x.2.2.2.1.getD (x.1.2.2.1 : Int).toNat (0, (0, (0, (0, 0))))).2.1 : Int).toNat (0, (0, (0, (0, (0, (0, 0))))))).2.2.2.2))))).set ((x.2.2.2.1.getD (x.1.2.2.1 : Int).toNat (0, (0, (0, (0, 0))))).2.1 : Int).toNat (((x.2.2.1.set ((x.2.2.2.1.getD (x.1.2.2.1 : Int).toNat (0, (0, (0, (0, 0))))).2.1 : Int).toNat ((x.2.2.1.getD ((x.2.2.2.1.getD (x.1.2.2.1 : Int).toNat (0, (0, (0, (0, 0))))).2.1 : Int).toNat (0, (0, (0, (0, (0, (0, 0))))))).1, ((x.2.2.1.getD ((x.2.2.2.1.getD (x.1.2.2.1 : Int).toNat (0, (0, (0, (0, 0))))).2.1 : Int).toNat (0, (0, (0, (0, (0, (0, 0))))))).2.1, ((x.2.2.1.getD ((x.2.2.2.1.getD (x.1.2.2.1 : Int).toNat (0, (0, (0, (0, 0))))).2.1 : Int).toNat (0, (0, (0, (0, (0, (0, 0))))))).2.2.1, ((x.2.2.2.1.getD (x.1.2.2.1 : Int).toNat (0, (0, (0, (0, 0))))).2.2.2.1, (x.2.2.1.getD ((x.2.2.2.1.getD (x.1.2.2.1 : Int).toNat (0, (0, (0, (0, 0))))).2.1 : Int).toNat (0, (0, (0, (0, (0, (0, 0))))))).2.2.2.2))))).getD ((x.2.2.2.1.getD (x.1.2.2.1 : Int).toNat (0, (0, (0, (0, 0))))).2.1 : Int).toNat (0, (0, (0, (0, (0, (0, 0))))))).1, (((x.2.2.1.set ((x.2.2.2.1.getD (x.1.2.2.1 : Int).toNat (0, (0, (0, (0, 0))))).2.1 : Int).toNat ((x.2.2.1.getD ((x.2.2.2.1.getD (x.1.2.2.1 : Int).toNat (0, (0, (0, (0, 0))))).2.1 : Int).toNat (0, (0, (0, (0, (0, (0, 0))))))).1, ((x.2.2.1.getD ((x.2.2.2.1.getD (x.1.2.2.1 : Int).toNat (0, (0, (0, (0, 0))))).2.1 : Int).toNat (0, (0, (0, (0, (0, (0, 0))))))).2.1, ((x.2.2.1.getD ((x.2.2.2.1.getD (x.1.2.2.1 : Int).toNat (0, (0, (0, (0, 0))))).2.1 : Int).toNat (0, (0, (0, (0, (0, (0, 0))))))).2.2.1, ((x.2.2.2.1.getD (x.1.2.2.1 : Int).toNat (0, (0, (0, (0, 0))))).2.2.2.1, (x.2.2.1.getD ((x.2.2.2.1.getD (x.1.2.2.1 : Int).toNat (0, (0, (0, (0, 0))))).2.1 : Int).toNat (0, (0, (0, (0, (0, (0, 0))))))).2.2.2.2))))).getD ((x.2.2.2.1.getD (x.1.2.2.1 : Int).toNat (0, (0, (0, (0, 0))))).2.1 : Int).toNat (0, (0, (0, (0, (0, (0, 0))))))).2.1, (((x.2.2.1.set ((x.2.2.2.1.getD (x.1.2.2.1 : Int).toNat (0, (0, (0, (0, 0))))).2.1 : Int).toNat ((x.2.2.1.getD ((x.2.2.2.1.getD (x.1.2.2.1 : Int).toNat (0, (0, (0, (0, 0))))).2.1 : Int).toNat (0, (0, (0, (0, (0, (0, 0))))))).1, ((x.2.2.1.getD ((x.2.2.2.1.getD (x.1.2.2.1 : Int).toNat (0, (0, (0, (0, 0))))).2.1 : Int).toNat (0, (0, (0, (0, (0, (0, 0))))))).2.1, ((x.2.2.1.getD ((x.2.2.2.1.getD (x.1.2.2.1 : Int).toNat (0, (0, (0, (0, 0))))).2.1 : Int).toNat (0, (0, (0, (0, (0, (0, 0))))))).2.2.1, ((x.2.2.2.1.getD (x.1.2.2.1 : Int).toNat (0, (0, (0, (0, 0))))).2.2.2.1, (x.2.2.1.getD ((x.2.2.2.1.getD (x.1.2.2.1 : Int).toNat (0, (0, (0, (0, 0))))).2.1 : Int).toNat (0, (0, (0, (0, (0, (0, 0))))))).2.2.2.2))))).getD ((x.2.2.2.1.getD (x.1.2.2.1 : Int).toNat (0, (0, (0, (0, 0))))).2.1 : Int).toNat (0, (0, (0, (0, (0, (0, 0))))))).2.2.1, (((x.2.2.1.set ((x.2.2.2.1.getD (x.1.2.2.1 : Int).toNat (0, (0, (0, (0, 0))))).2.1 : Int).toNat ((x.2.2.1.getD ((x.2.2.2.1.getD (x.1.2.2.1 : Int).toNat (0, (0, (0, (0, 0))))).2.1 : Int).toNat (0, (0, (0, (0, (0, (0, 0))))))).1, ((x.2.2.1.getD ((x.2.2.2.1.getD (x.1.2.2.1 : Int).toNat (0, (0, (0, (0, 0))))).2.1 : Int).toNat (0, (0, (0, (0, (0, (0, 0))))))).2.1, ((x.2.2.1.getD ((x.2.2.2.1.getD (x.1.2.2.1 : Int).toNat (0, (0, (0, (0, 0))))).2.1 : Int).toNat (0, (0, (0, (0, (0, (0, 0))))))).2.2.1, ((x.2.2.2.1.getD (x.1.2.2.1 : Int).toNat (0, (0, (0, (0, 0))))).2.2.2.1, (x.2.2.1.getD ((x.2.2.2.1.getD (x.1.2.2.1 : Int).toNat (0, (0, (0, (0, 0))))).2.1 : Int).toNat (0, (0, (0, (0, (0, (0, 0))))))).2.2.2.2))))).getD ((x.2.2.2.1.getD (x.1.2.2.1 : Int).toNat (0, (0, (0, (0, 0))))).2.1 : Int).toNat (0, (0, (0, (0, (0, (0, 0))))))).2.2.2.1, (((x.2.2.1.set ((x.2.2.2.1.getD (x.1.2.2.1 : Int).toNat (0, (0, (0, (0, 0))))).2.1 : Int).toNat ((x.2.2.1.getD ((x.2.2.2.1.getD (x.1.2.2.1 : Int).toNat (0, (0, (0, (0, 0))))).2.1 : Int).toNat (0, (0, (0, (0, (0, (0, 0))))))).1, ((x.2.2.1.getD ((x.2.2.2.1.getD (x.1.2.2.1 : Int).toNat (0, (0, (0, (0, 0))))).2.1 : Int).toNat (0, (0, (0, (0, (0, (0, 0))))))).2.1, ((x.2.2.1.getD ((x.2.2.2.1.getD (x.1.2.2.1 : Int).toNat (0, (0, (0, (0, 0))))).2.1 : Int).toNat (0, (0, (0, (0, (0, (0, 0))))))).2.2.1, ((x.2.2.2.1.getD (x.1.2.2.1 : Int).toNat (0, (0, (0, (0, 0))))).2.2.2.1, (x.2.2.1.getD ((x.2.2.2.1.getD (x.1.2.2.1 : Int).toNat (0, (0, (0, (0, 0))))).2.1 : Int).toNat (0, (0, (0, (0, (0, (0, 0))))))).2.2.2.2))))).getD ((x.2.2.2.1.getD (x.1.2.2.1 : Int).toNat (0, (0, (0, (0, 0))))).2.1 : Int).toNat (0, (0, (0, (0, (0, (0, 0))))))).2.2.2.2.1, ((x.2.2.2.1.getD (x.1.2.2.1 : Int).toNat (0, (0, (0, (0, 0))))).2.2.2.2, ((x.2.2.1.set ((x.2.2.2.1.getD (x.1.2.2.1 : Int).toNat (0, (0, (0, (0, 0))))).2.1 : Int).toNat ((x.2.2.1.getD ((x.2.2.2.1.getD (x.1.2.2.1 : Int).toNat (0, (0, (0, (0, 0))))).2.1 : Int).toNat (0, (0, (0, (0, (0, (0, 0))))))).1, ((x.2.2.1.getD ((x.2.2.2.1.getD (x.1.2.2.1 : Int).toNat (0, (0, (0, (0, 0))))).2.1 : Int).toNat (0, (0, (0, (0, (0, (0, 0))))))).2.1, ((x.2.2.1.getD ((x.2.2.2.1.getD (x.1.2.2.1 : Int).toNat (0, (0, (0, (0, 0))))).2.1 : Int).toNat (0, (0, (0, (0, (0, (0, 0))))))).2.2.1, ((x.2.2.2.1.getD (x.1.2.2.1 : Int).toNat (0, (0, (0, (0, 0))))).2.2.2.1, (x.2.2.1.getD ((x.2.2.2.1.getD (x.1.2.2.1 : Int).toNat (0, (0, (0, (0, 0))))).2.1 : Int).toNat (0, (0, (0, (0, (0, (0, 0))))))).2.2.2.2))))).getD ((x.2.2.2.1.getD (x.1.2.2.1 : Int).toNat (0, (0, (0, (0, 0))))).2.1 : Int).toNat (0, (0, (0, (0, (0, (0, 0))))))).2.2.2.2.2.2))))))).getD ((x.2.2.2.1.getD (x.1.2.2.1 : Int).toNat (0, (0, (0, (0, 0))))).2.1 : Int).toNat (0, (0, (0, (0, (0, (0, 0))))))).2.2.2.1, ((((x.2.2.1.set ((x.2.2.2.1.getD (x.1.2.2.1 : Int).toNat (0, (0, (0, (0, 0))))).2.1 : Int).toNat ((x.2.2.1.getD ((x.2.2.2.1.getD (x.1.2.2.1 : Int).toNat (0, (0, (0, (0, 0))))).2.1 : Int).toNat (0, (0, (0, (0, (0, (0, 0))))))).1, ((x.2.2.1.getD ((x.2.2.2.1.getD (x.1.2.2.1 : Int).toNat (0, (0, (0, (0, 0))))).2.1 : Int).toNat (0, (0, (0, (0, (0, (0, 0))))))).2.1, ((x.2.2.1.getD ((x.2.2.2.1.getD (x.1.2.2.1 : Int).toNat (0, (0, (0, (0, 0))))).2.1 : Int).toNat (0, (0, (0, (0, (0, (0, 0))))))).2.2.1, ((x.2.2.2.1.getD (x.1.2.2.1 : Int).toNat (0, (0, (0, (0, 0))))).2.2.2.1, (x.2.2.1.getD ((x.2.2.2.1.getD (x.1.2.2.1 : Int).toNat (0, (0, (0, (0, 0))))).2.1 : Int).toNat (0, (0, (0, (0, (0, (0, 0))))))).2.2.2.2))))).set ((x.2.2.2.1.getD (x.1.2.2.1 : Int).toNat (0, (0, (0, (0, 0))))).2.1 : Int).toNat (((x.2.2.1.set ((x.2.2.2.1.getD (x.1.2.2.1 : Int).toNat (0, (0, (0, (0, 0))))).2.1 : Int).toNat ((x.2.2.1.getD ((x.2.2.2.1.getD (x.1.2.2.1 : Int).toNat (0, (0, (0, (0, 0))))).2.1 : Int).toNat (0, (0, (0, (0, (0, (0, 0))))))).1, ((x.2.2.1.getD ((x.2.2.2.1.getD (x.1.2.2.1 : Int).toNat (0, (0, (0, (0, 0))))).2.1 : Int).toNat (0, (0, (0, (0, (0, (0, 0))))))).2.1, ((x.2.2.1.getD ((x.2.2.2.1.getD (x.1.2.2.1 : Int).toNat (0, (0, (0, (0, 0))))).2.1 : Int).toNat (0, (0, (0, (0, (0, (0, 0))))))).2.2.1, ((x.2.2.2.1.getD (x.1.2.2.1 : Int).toNat (0, (0, (0, (0, 0))))).2.2.2.1, (x.2.2.1.getD ((x.2.2.2.1.getD (x.1.2.2.1 : Int).toNat (0, (0, (0, (0, 0))))).2.1 : Int).toNat (0, (0, (0, (0, (0, (0, 0))))))).2.2.2.2))))).getD ((x.2.2.2.1.getD (x.1.2.2.1 : Int).toNat (0, (0, (0, (0, 0))))).2.1 : Int).toNat (0, (0, (0, (0, (0, (0, 0))))))).1, (((x.2.2.1.set ((x.2.2.2.1.getD (x.1.2.2.1 : Int).toNat (0, (0, (0, (0, 0))))).2.1 : Int).toNat ((x.2.2.1.getD ((x.2.2.2.1.getD (x.1.2.2.1 : Int).toNat (0, (0, (0, (0, 0))))).2.1 : Int).toNat (0, (0, (0, (0, (0, (0, 0))))))).1, ((x.2.2.1.getD ((x.2.2.2.1.getD (x.1.2.2.1 : Int).toNat (0, (0, (0, (0, 0))))).2.1 : Int).toNat (0, (0, (0, (0, (0, (0, 0))))))).2.1, ((x.2.2.1.getD ((x.2.2.2.1.getD (x.1.2.2.1 : Int).toNat (0, (0, (0, (0, 0))))).2.1 : Int).toNat (0, (0, (0, (0, (0, (0, 0))))))).2.2.1, ((x.2.2.2.1.getD (x.1.2.2.1 : Int).toNat (0, (0, (0, (0, 0))))).2.2.2.1, (x.2.2.1.getD ((x.2.2.2.1.getD (x.1.2.2.1 : Int).toNat (0, (0, (0, (0, 0))))).2.1 : Int).toNat (0, (0, (0, (0, (0, (0, 0))))))).2.2.2.2))))).getD ((x.2.2.2.1.getD (x.1.2.2.1 : Int).toNat (0, (0, (0, (0, 0))))).2.1 : Int).toNat (0, (0, (0, (0, (0, (0, 0))))))).2.1, (((x.2.2.1.set ((x.2.2.2.1.getD (x.1.2.2.1 : Int).toNat (0, (0, (0, (0, 0))))).2.1 : Int).toNat ((x.2.2.1.getD ((x.2.2.2.1.getD (x.1.2.2.1 : Int).toNat (0, (0, (0, (0, 0))))).2.1 : Int).toNat (0, (0, (0, (0, (0, (0, 0))))))).1, ((x.2.2.1.getD ((x.2.2.2.1.getD (x.1.2.2.1 : Int).toNat (0, (0, (0, (0, 0))))).2.1 : Int).toNat (0, (0, (0, (0, (0, (0, 0))))))).2.1, ((x.2.2.1.getD ((x.2.2.2.1.getD (x.1.2.2.1 : Int).toNat (0, (0, (0, (0, 0))))).2.1 : Int).toNat (0, (0, (0, (0, (0, (0, 0))))))).2.2.1, ((x.2.2.2.1.getD (x.1.2.2.1 : Int).toNat (0, (0, (0, (0, 0))))).2.2.2.1, (x.2.2.1.getD ((x.2.2.2.1.getD (x.1.2.2.1 : Int).toNat (0, (0, (0, (0, 0))))).2.1 : Int).toNat (0, (0, (0, (0, (0, (0, 0))))))).2.2.2.2))))).getD ((x.2.2.2.1.getD (x.1.2.2.1 : Int).toNat (0, (0, (0, (0, 0))))).2.1 : Int).toNat (0, (0, (0, (0, (0, (0, 0))))))).2.2.1, (((x.2.2.1.set ((x.2.2.2.1.getD (x.1.2.2.1 : Int).toNat (0, (0, (0, (0, 0))))).2.1 : Int).toNat ((x.2.2.1.getD ((x.2.2.2.1.getD (x.1.2.2.1 : Int).toNat (0, (0, (0, (0, 0))))).2.1 : Int).toNat (0, (0, (0, (0, (0, (0, 0))))))).1, ((x.2.2.1.getD ((x.2.2.2.1.getD (x.1.2.2.1 : Int).toNat (0, (0, (0, (0, 0))))).2.1 : Int).toNat (0, (0, (0, (0, (0, (0, 0))))))).2.1, ((x.2.2.1.getD ((x.2.2.2.1.getD (x.1.2.2.1 : Int).toNat (0, (0, (0, (0, 0))))).2.1 : Int).toNat (0, (0, (0, (0, (0, (0, 0))))))).2.2.1, ((x.2.2.2.1.getD (x.1.2.2.1 : Int).toNat (0, (0, (0, (0, 0))))).2.2.2.1, (x.2.2.1.getD ((x.2.2.2.1.getD (x.1.2.2.1 : Int).toNat (0, (0, (0, (0, 0))))).2.1 : Int).toNat (0, (0, (0, (0, (0, (0, 0))))))).2.2.2.2))))).getD ((x.2.2.2.1.getD (x.1.2.2.1 : Int).toNat (0, (0, (0, (0, 0))))).2.1 : Int).toNat (0, (0, (0, (0, (0, (0, 0))))))).2.2.2.1, (((x.2.2.1.set ((x.2.2.2.1.getD (x.1.2.2.1 : Int).toNat (0, (0, (0, (0, 0))))).2.1 : Int).toNat ((x.2.2.1.getD ((x.2.2.2.1.getD (x.1.2.2.1 : Int).toNat (0, (0, (0, (0, 0))))).2.1 : Int).toNat (0, (0, (0, (0, (0, (0, 0))))))).1, ((x.2.2.1.getD ((x.2.2.2.1.getD (x.1.2.2.1 : Int).toNat (0, (0, (0, (0, 0))))).2.1 : Int).toNat (0, (0, (0, (0, (0, (0, 0))))))).2.1, ((x.2.2.1.getD ((x.2.2.2.1.getD (x.1.2.2.1 : Int).toNat (0, (0, (0, (0, 0))))).2.1 : Int).toNat (0, (0, (0, (0, (0, (0, 0))))))).2.2.1, ((x.2.2.2.1.getD (x.1.2.2.1 : Int).toNat (0, (0, (0, (0, 0))))).2.2.2.1, (x.2.2.1.getD ((x.2.2.2.1.getD (x.1.2.2.1 : Int).toNat (0, (0, (0, (0, 0))))).2.1 : Int).toNat (0, (0, (0, (0, (0, (0, 0))))))).2.2.2.2))))).getD ((x.2.2.2.1.getD (x.1.2.2.1 : Int).toNat (0, (0, (0, (0, 0))))).2.1 : Int).toNat (0, (0, (0, (0, (0, (0, 0))))))).2.2.2.2.1, ((x.2.2.2.1.getD (x.1.2.2.1 : Int).toNat (0, (0, (0, (0, 0))))).2.2.2.2, ((x.2.2.1.set ((x.2.2.2.1.getD (x.1.2.2.1 : Int).toNat (0, (0, (0, (0, 0))))).2.1 : Int).toNat ((x.2.2.1.getD ((x.2.2.2.1.getD (x.1.2.2.1 : Int).toNat (0, (0, (0, (0, 0))))).2.1 : Int).toNat (0, (0, (0, (0, (0, (0, 0))))))).1, ((x.2.2.1.getD ((x.2.2.2.1.getD (x.1.2.2.1 : Int).toNat (0, (0, (0, (0, 0))))).2.1 : Int).toNat (0, (0, (0, (0, (0, (0, 0))))))).2.1, ((x.2.2.1.getD ((x.2.2.2.1.getD (x.1.2.2.1 : Int).toNat (0, (0, (0, (0, 0))))).2.1 : Int).toNat (0, (0, (0, (0, (0, (0, 0))))))).2.2.1, ((x.2.2.2.1.getD (x.1.2.2.1 : Int).toNat (0, (0, (0, (0, 0))))).2.2.2.1, (x.2.2.1.getD ((x.2.2.2.1.getD (x.1.2.2.1 : Int).toNat (0, (0, (0, (0, 0))))).2.1 : Int).toNat (0, (0, (0, (0, (0, (0, 0))))))).2.2.2.2))))).getD ((x.2.2.2.1.getD (x.1.2.2.1 : Int).toNat (0, (0, (0, (0, 0))))).2.1 : Int).toNat (0, (0, (0, (0, (0, (0, 0))))))).2.2.2.2.2.2))))))).getD ((x.2.2.2.1.getD (x.1.2.2.1 : Int).toNat (0, (0, (0, (0, 0))))).2.1 : Int).toNat (0, (0, (0, (0, (0, (0, 0))))))).2.2.2.2.1, ((((x.2.2.1.set ((x.2.2.2.1.getD (x.1.2.2.1 : Int).toNat (0, (0, (0, (0, 0))))).2.1 : Int).toNat ((x.2.2.1.getD ((x.2.2.2.1.getD (x.1.2.2.1 : Int).toNat (0, (0, (0, (0, 0))))).2.1 : Int).toNat (0, (0, (0, (0, (0, (0, 0))))))).1, ((x.2.2.1.getD ((x.2.2.2.1.getD (x.1.2.2.1 : Int).toNat (0, (0, (0, (0, 0))))).2.1 : Int).toNat (0, (0, (0, (0, (0, (0, 0))))))).2.1, ((x.2.2.1.getD ((x.2.2.2.1.getD (x.1.2.2.1 : Int).toNat (0, (0, (0, (0, 0))))).2.1 : Int).toNat (0, (0, (0, (0, (0, (0, 0))))))).2.2.1, ((x.2.2.2.1.getD (x.1.2.2.1 : Int).toNat (0, (0, (0, (0, 0))))).2.2.2.1, (x.2.2.1.getD ((x.2.2.2.1.getD (x.1.2.2.1 : Int).toNat (0, (0, (0, (0, 0))))).2.1 : Int).toNat (0, (0, (0, (0, (0, (0, 0))))))).2.2.2.2))))).set ((x.2.2.2.1.getD (x.1.2.2.1 : Int).toNat (0, (0, (0, (0, 0))))).2.1 : Int).toNat (((x.2.2.1.set ((x.2.2.2.1.getD (x.1.2.2.1 : Int).toNat (0, (0, (0, (0, 0))))).2.1 : Int).toNat ((x.2.2.1.getD ((x.2.2.2.1.getD (x.1.2.2.1 : Int).toNat (0, (0, (0, (0, 0))))).2.1 : Int).toNat (0, (0, (0, (0, (0, (0, 0))))))).1, ((x.2.2.1.getD ((x.2.2.2.1.getD (x.1.2.2.1 : Int).toNat (0, (0, (0, (0, 0))))).2.1 : Int).toNat (0, (0, (0, (0, (0, (0, 0))))))).2.1, ((x.2.2.1.getD ((x.2.2.2.1.getD (x.1.2.2.1 : Int).toNat (0, (0, (0, (0, 0))))).2.1 : Int).toNat (0, (0, (0, (0, (0, (0, 0))))))).2.2.1, ((x.2.2.2.1.getD (x.1.2.2.1 : Int).toNat (0, (0, (0, (0, 0))))).2.2.2.1, (x.2.2.1.getD ((x.2.2.2.1.getD (x.1.2.2.1 : Int).toNat (0, (0, (0, (0, 0))))).2.1 : Int).toNat (0, (0, (0, (0, (0, (0, 0))))))).2.2.2.2))))).getD ((x.2.2.2.1.getD (x.1.2.2.1 : Int).toNat (0, (0, (0, (0, 0))))).2.1 : Int).toNat (0, (0, (0, (0, (0, (0, 0))))))).1, (((x.2.2.1.set ((x.2.2.2.1.getD (x.1.2.2.1 : Int).toNat (0, (0, (0, (0, 0))))).2.1 : Int).toNat ((x.2.2.1.getD ((x.2.2.2.1.getD (x.1.2.2.1 : Int).toNat (0, (0, (0, (0, 0))))).2.1 : Int).toNat (0, (0, (0, (0, (0, (0, 0))))))).1, ((x.2.2.1.getD ((x.2.2.2.1.getD (x.1.2.2.1 : Int).toNat (0, (0, (0, (0, 0))))).2.1 : Int).toNat (0, (0, (0, (0, (0, (0, 0))))))).2.1, ((x.2.2.1.getD ((x.2.2.2.1.getD (x.1.2.2.1 : Int).toNat (0, (0, (0, (0, 0))))).2.1 : Int).toNat (0, (0, (0, (0, (0, (0, 0))))))).2.2.1, ((x.2.2.2.1.getD (x.1.2.2.1 : Int).toNat (0, (0, (0, (0, 0))))).2.2.2.1, (x.2.2.1.getD ((x.2.2.2.1.getD (x.1.2.2.1 : Int).toNat (0, (0, (0, (0, 0))))).2.1 : Int).toNat (0, (0, (0, (0, (0, (0, 0))))))).2.2.2.2))))).getD ((x.2.2.2.1.getD (x.1.2.2.1 : Int).toNat (0, (0, (0, (0, 0))))).2.1 : Int).toNat (0, (0, (0, (0, (0, (0, 0))))))).2.1, (((x.2.2.1.set ((x.2.2.2.1.getD (x.1.2.2.1 : Int).toNat (0, (0, (0, (0, 0))))).2.1 : Int).toNat ((x.2.2.1.getD ((x.2.2.2.1.getD (x.1.2.2.1 : Int).toNat (0, (0, (0, (0, 0))))).2.1 : Int).toNat (0, (0, (0, (0, (0, (0, 0))))))).1, ((x.2.2.1.getD ((x.2.2.2.1.getD (x.1.2.2.1 : Int).toNat (0, (0, (0, (0, 0))))).2.1 : Int).toNat (0, (0, (0, (0, (0, (0, 0))))))).2.1, ((x.2.2.1.getD ((x.2.2.2.1.getD (x.1.2.2.1 : Int).toNat (0, (0, (0, (0, 0))))).2.1 : Int).toNat (0, (0, (0, (0, (0, (0, 0))))))).2.2.1, ((x.2.2.2.1.getD (x.1.2.2.1 : Int).toNat (0, (0, (0, (0, 0))))).2.2.2.1, (x.2.2.1.getD ((x.2.2.2.1.getD (x.1.2.2.1 : Int).toNat (0, (0, (0, (0, 0))))).2.1 : Int).toNat (0, (0, (0, (0, (0, (0, 0))))))).2.2.2.2))))).getD ((x.2.2.2.1.getD (x.1.2.2.1 : Int).toNat (0, (0, (0, (0, 0))))).2.1 : Int).toNat (0, (0, (0, (0, (0, (0, 0))))))).2.2.1, (((x.2.2.1.set ((x.2.2.2.1.getD (x.1.2.2.1 : Int).toNat (0, (0, (0, (0, 0))))).2.1 : Int).toNat ((x.2.2.1.getD ((x.2.2.2.1.getD (x.1.2.2.1 : Int).toNat (0, (0, (0, (0, 0))))).2.1 : Int).toNat (0, (0, (0, (0, (0, (0, 0))))))).1, ((x.2.2.1.getD ((x.2.2.2.1.getD (x.1.2.2.1 : Int).toNat (0, (0, (0, (0, 0))))).2.1 : Int).toNat (0, (0, (0, (0, (0, (0, 0))))))).2.1, ((x.2.2.1.getD ((x.2.2.2.1.getD (x.1.2.2.1 : Int).toNat (0, (0, (0, (0, 0))))).2.1 : Int).toNat (0, (0, (0, (0, (0, (0, 0))))))).2.2.1, ((x.2.2.2.1.getD (x.1.2.2.1 : Int).toNat (0, (0, (0, (0, 0))))).2.2.2.1, (x.2.2.1.getD ((x.2.2.2.1.getD (x.1.2.2.1 : Int).toNat (0, (0, (0, (0, 0))))).2.1 : Int).toNat (0, (0, (0, (0, (0, (0, 0))))))).2.2.2.2))))).getD ((x.2.2.2.1.getD (x.1.2.2.1 : Int).toNat (0, (0, (0, (0, 0))))).2.1 : Int).toNat (0, (0, (0, (0, (0, (0, 0))))))).2.2.2.1, (((x.2.2.1.set ((x.2.2.2.1.getD (x.1.2.2.1 : Int).toNat (0, (0, (0, (0, 0))))).2.1 : Int).toNat ((x.2.2.1.getD ((x.2.2.2.1.getD (x.1.2.2.1 : Int).toNat (0, (0, (0, (0, 0))))).2.1 : Int).toNat (0, (0, (0, (0, (0, (0, 0))))))).1, ((x.2.2.1.getD ((x.2.2.2.1.getD (x.1.2.2.1 : Int).toNat (0, (0, (0, (0, 0))))).2.1 : Int).toNat (0, (0, (0, (0, (0, (0, 0))))))).2.1, ((x.2.2.1.getD ((x.2.2.2.1.getD (x.1.2.2.1 : Int).toNat (0, (0, (0, (0, 0))))).2.1 : Int).toNat (0, (0, (0, (0, (0, (0, 0))))))).2.2.1, ((x.2.2.2.1.getD (x.1.2.2.1 : Int).toNat (0, (0, (0, (0, 0))))).2.2.2.1, (x.2.2.1.getD ((x.2.2.2.1.getD (x.1.2.2.1 : Int).toNat (0, (0, (0, (0, 0))))).2.1 : Int).toNat (0, (0, (0, (0, (0, (0, 0))))))).2.2.2.2))))).getD ((x.2.2.2.1.getD (x.1.2.2.1 : Int).toNat (0, (0, (0, (0, 0))))).2.1 : Int).toNat (0, (0, (0, (0, (0, (0, 0))))))).2.2.2.2.1, ((x.2.2.2.1.getD (x.1.2.2.1 : Int).toNat (0, (0, (0, (0, 0))))).2.2.2.2, ((x.2.2.1.set ((x.2.2.2.1.getD (x.1.2.2.1 : Int).toNat (0, (0, (0, (0, 0))))).2.1 : Int).toNat ((x.2.2.1.getD ((x.2.2.2.1.getD (x.1.2.2.1 : Int).toNat (0, (0, (0, (0, 0))))).2.1 : Int).toNat (0, (0, (0, (0, (0, (0, 0))))))).1, ((x.2.2.1.getD ((x.2.2.2.1.getD (x.1.2.2.1 : Int).toNat (0, (0, (0, (0, 0))))).2.1 : Int).toNat (0, (0, (0, (0, (0, (0, 0))))))).2.1, ((x.2.2.1.getD ((x.2.2.2.1.getD (x.1.2.2.1 : Int).toNat (0, (0, (0, (0, 0))))).2.1 : Int).toNat (0, (0, (0, (0, (0, (0, 0))))))).2.2.1, ((x.2.2.2.1.getD (x.1.2.2.1 : Int).toNat (0, (0, (0, (0, 0))))).2.2.2.1, (x.2.2.1.getD ((x.2.2.2.1.getD (x.1.2.2.1 : Int).toNat (0, (0, (0, (0, 0))))).2.1 : Int).toNat (0, (0, (0, (0, (0, (0, 0))))))).2.2.2.2))))).getD ((x.2.2.2.1.getD (x.1.2.2.1 : Int).toNat (0, (0, (0, (0, 0))))).2.1 : Int).toNat (0, (0, (0, (0, (0, (0, 0))))))).2.2.2.2.2.2))))))).getD ((x.2.2.2.1.getD (x.1.2.2.1 : Int).toNat (0, (0, (0, (0, 0))))).2.1 : Int).toNat (0, (0, (0, (0, (0, (0, 0))))))).2.2.2.2.2.1, x.1.1))))))), (x.2.2.2.1, ()))))
      else
        none
    else
      none
  else
    some ((), ((), (x.2.2.1, ())))

def chain_Run_1 (N : Nat) (x : ((Int × Unit) × (Unit × ((List Ti7) × ((List Ti5) × Unit))))) : Option (Unit × (Unit × ((List Ti7) × Unit))) :=
  (iter (chain_Run_1_L1 N) N ((x.1.1, ((((x.2.2.2.1).length : Nat) : Int), (0, ()))), ((), (x.2.2.1, (x.2.2.2.1, ()))))).bind fun r0 =>
  some ((), ((), (r0.2.2.1, ())))

def chain_Run_L4 (N : Nat) (F : ((Int × (Int × Unit)) × ((List (Ti10 × (List Int))) × (Unit × ((List Ti5) × ((List Ti5) × ((List Ti7) × Unit)))))) → Option (Unit × ((List (Ti10 × (List Int))) × (Unit × ((List Ti5) × ((List Ti7) × Unit)))))) (x : ((Int × (Int × Unit)) × ((List (Ti10 × (List Int))) × (Unit × ((List Ti5) × ((List Ti5) × ((List Ti7) × Unit))))))) : Option (Unit × ((List (Ti10 × (List Int))) × (Unit × ((List Ti5) × ((List Ti7) × Unit))))) :=
  bif (decide (x.1.2.1 < x.1.1)) then
    bif ((decide ((0 : Int) ≤ x.1.2.1)) && (decide (x.1.2.1 < (((x.2.2.2.2.1).length : Nat) : Int)))) then
      (sat_Clamp N (x.2.2.2.2.1.getD (x.1.2.1 : Int).toNat (0, (0, (0, (0, 0))))).2.2.1 1 65536).bind fun r0 =>
      (sat_Clamp N (x.2.2.2.2.1.getD (x.1.2.1 : Int).toNat (0, (0, (0, (0, 0))))).2.2.2.2 0 67108864).bind fun r1 =>
      bif ((decide ((0 : Int) ≤ x.1.2.1)) && (decide (x.1.2.1 < (((x.2.2.2.2.2.1).length : Nat) : Int)))) then
        bif ((decide ((0 : Int) ≤ x.1.2.1)) && (decide (x.1.2.1 < (((x.2.2.2.1).length : Nat) : Int)))) then
          bif ((decide ((0 : Int) ≤ x.1.2.1)) && (decide (x.1.2.1 < ((((x.2.2.2.1.set (x.1.2.1 : Int).toNat ((x.2.2.2.2.1.getD (x.1.2.1 : Int).toNat (0, (0, (0, (0, 0))))).1, ((x.2.2.2.2.1.getD (x.1.2.1 : Int).toNat (0, (0, (0, (0, 0))))).2.1, (r0, ((x.2.2.2.2.1.getD (x.1.2.1 : Int).toNat (0, (0, (0, (0, 0))))).2.2.2.1, r1)))))).length : Nat) : Int)))) then
            F ((x.1.1, ((IntKind.wrap .i64 (x.1.2.1 + 1)), ())), (x.2.1, ((), (((x.2.2.2.1.set (x.1.2.1 : Int).toNat ((x.2.2.2.2.1.getD (x.1.2.1 : Int).toNat (0, (0, (0, (0, 0))))).1, ((x.2.2.2.2.1.getD (x.1.2.1 : Int).toNat (0, (0, (0, (0, 0))))).2.1, (r0, ((x.2.2.2.2.1.getD (x.1.2.1 : Int).toNat (0, (0, (0, (0, 0))))).2.2.2.1, r1))))).set (x.1.2.1 : Int).toNat (((x.2.2.2.1.set (x.1.2.1 : Int).toNat ((x.2.2.2.2.1.getD (x.1.2.1 : Int).toNat (0, (0, (0, (0, 0))))).1, ((x.2.2.2.2.1.getD (x.1.2.1 : Int).toNat (0, (0, (0, (0, 0))))).2.1, (r0, ((x.2.2.2.2.1.getD (x.1.2.1 : Int).toNat (0, (0, (0, (0, 0))))).2.2.2.1, r1))))).getD (x.1.2.1 : Int).toNat (0, (0, (0, (0, 0))))).1, (x.1.2.1, ((x.2.2.2.1.set (x.1.2.1 : Int).toNat ((x.2.2.2.2.1.getD (x.1.2.1 : Int).toNat (0, (0, (0, (0, 0))))).1, ((x.2.2.2.2.1.getD (x.1.2.1 : Int).toNat (0, (0, (0, (0, 0))))).2.1, (r0, ((x.2.2.2.2.1.getD (x.1.2.1 : Int).toNat (0, (0, (0, (0, 0))))).2.2.2.1, r1))))).getD (x.1.2.1 : Int).toNat (0, (0, (0, (0, 0))))).2.2))), (x.2.2.2.2.1, ((x.2.2.2.2.2.1.set (x.1.2.1 : Int).toNat ((x.2.2.2.2.1.getD (x.1.2.1 : Int).toNat (0, (0, (0, (0, 0))))).1, ((x.2.2.2.2.1.getD (x.1.2.1 : Int).toNat (0, (0, (0, (0, 0))))).2.1, (r0, ((x.2.2.2.2.1.getD (x.1.2.1 : Int).toNat (0, (0, (0, (0, 0))))).2.2.2.1, (r1, (r1, 0))))))), ()))))))
          else
            none
        else
          none
      else
        none
    else
      none
  else
    some ((), (x.2.1, ((), (x.2.2.2.1, (x.2.2.2.2.2.1, ())))))

def chain_Run_L13 (N : Nat) (F : ((Int × (Int × Unit)) × (Unit × ((List Ti5) × ((List (Ti10 × (List Int))) × ((List Ti7) × Unit))))) → Option (Unit × (Unit × ((List Ti7) × Unit)))) (x : ((Int × (Int × Unit)) × (Unit × ((List Ti5) × ((List (Ti10 × (List Int))) × ((List Ti7) × Unit)))))) : Option (Unit × (Unit × ((List Ti7) × Unit))) :=
  bif (decide (x.1.2.1 < x.1.1)) then
    bif ((decide ((0 : Int) ≤ x.1.2.1)) && (decide (x.1.2.1 < (((x.2.2.2.1).length : Nat) : Int)))) then
      (chain_Pass N ((((x.2.2.2.1.getD (x.1.2.1 : Int).toNat ((0, (0, (0, (0, (0, (0, (0, (0, (0, 0))))))))), ([] : List Int))).1, ()), ()), ((x.2.2.2.1.getD (x.1.2.1 : Int).toNat ((0, (0, (0, (0, (0, (0, (0, (0, (0, 0))))))))), ([] : List Int))).2, (x.2.2.1, ())))).bind fun r0 =>
      (chain_Run_1 N ((0, ()), ((), (x.2.2.2.2.1, (r0.2.1, ()))))).bind fun r1 =>
      (chain_Run_1 N (((IntKind.wrap .i64 (x.1.2.1 + 1)), ()), ((), (r1.2.2.1, (r0.2.2.1, ()))))).bind fun r2 =>
      F ((x.1.1, ((IntKind.wrap .i64 (x.1.2.1 + 1)), ())), ((), (r0.2.1, (x.2.2.2.1, (r2.2.2.1, ())))))
    else
      none
  else
    some ((), ((), (x.2.2.2.2.1, ())))

def chain_Run (N : Nat) (a0 : (List (Ti10 × (List Int)))) (a1 : (List Ti5)) : Option (List Ti7) :=
  bif ((decide ((0 : Int) ≤ (((a1).length : Nat) : Int))) && (((decide ((((a1).length : Nat) : Int) = (((a1).length : Nat) : Int))) && (decide (((((a1).length : Nat) : Int) * 56) ≤ 140737488355328))) && (decide ((((a1).length : Nat) : Int) ≤ 140737488355328)))) then
    bif ((decide ((0 : Int) ≤ (((a1).length : Nat) : Int))) && (((decide ((((a1).length : Nat) : Int) = (((a1).length : Nat) : Int))) && (decide (((((a1).length : Nat) : Int) * 40) ≤ 140737488355328))) && (decide ((((a1).length : Nat) : Int) ≤ 140737488355328)))) then
      (iter (chain_Run_L4 N) N (((((a1).length : Nat) : Int), (0, ())), (a0, ((), ((List.replicate ((((a1).length : Nat) : Int) : Int).toNat ((0, (0, (0, (0, 0)))) : Ti5)), (a1, ((List.replicate ((((a1).length : Nat) : Int) : Int).toNat ((0, (0, (0, (0, (0, (0, 0)))))) : Ti7)), ()))))))).bind fun r0 =>
      bif ((decide ((0 : Int) ≤ (imn (((r0.2.1).length : Nat) : Int) 8))) && (decide ((imn (((r0.2.1).length : Nat) : Int) 8) ≤ (((r0.2.1).length : Nat) : Int)))) then
        (iter (chain_Run_L13 N) N ((((((cutL r0.2.1 0 (imn (((r0.2.1).length : Nat) : Int) 8))).length : Nat) : Int), (0, ())), ((), (r0.2.2.2.1, ((cutL r0.2.1 0 (imn (((r0.2.1).length : Nat) : Int) 8)), (r0.2.2.2.2.1, ())))))).bind fun r1 =>
        some r1.2.2.1
      else
        none
    else
      none
  else
    none

def leatlaw50_works (N : Nat) : Option Bool :=
  (chain_Run N ([] : List (Ti10 × (List Int))) ([(0, (4, (9, (0, 7))))] : List Ti5)).bind fun r0 =>
  bif (((((r0).length : Nat) : Int) == 1) == true) then
    bif (decide ((0 : Int) < (((r0).length : Nat) : Int))) then
      some ((((r0.getD (0 : Int).toNat (0, (0, (0, (0, (0, (0, 0))))))).1 == 0) && (((r0.getD (0 : Int).toNat (0, (0, (0, (0, (0, (0, 0))))))).2.1 == 4) && (((r0.getD (0 : Int).toNat (0, (0, (0, (0, (0, (0, 0))))))).2.2.1 == 9) && (((r0.getD (0 : Int).toNat (0, (0, (0, (0, (0, (0, 0))))))).2.2.2.1 == 0) && (((r0.getD (0 : Int).toNat (0, (0, (0, (0, (0, (0, 0))))))).2.2.2.2.1 == 7) && true))))) && (((r0.getD (0 : Int).toNat (0, (0, (0, (0, (0, (0, 0))))))).2.2.2.2.2.1 == 7) && (((r0.getD (0 : Int).toNat (0, (0, (0, (0, (0, (0, 0))))))).2.2.2.2.2.2 == 0) && true)))
    else
      none
  else
    some false

def leatref50_Least_L3 (N : Nat) (F : ((Int × (Int × (Int × Unit))) × ((List (Ti10 × (List Int))) × Unit)) → Option ((Int × Unit) × Unit)) (x : ((Int × (Int × (Int × Unit))) × ((List (Ti10 × (List Int))) × Unit))) : Option ((Int × Unit) × Unit) :=
  bif ((decide (x.1.2.2.1 < (((x.2.1).length : Nat) : Int))) == true) then
    bif (decide (x.1.2.2.1 < 8)) then
      bif ((decide ((0 : Int) ≤ x.1.2.2.1)) && (decide (x.1.2.2.1 < (((x.2.1).length : Nat) : Int)))) then
        (leatref50_Limit N ((((x.2.1.getD (x.1.2.2.1 : Int).toNat ((0, (0, (0, (0, (0, (0, (0, (0, (0, 0))))))))), ([] : List Int))).1, ()), ()), ((x.2.1.getD (x.1.2.2.1 : Int).toNat ((0, (0, (0, (0, (0, (0, (0, (0, (0, 0))))))))), ([] : List Int))).2, ()))).bind fun r0 =>
        (leatref37_Span N x.1.1 r0.1.1.1.1).bind fun r1 =>
        F ((x.1.1, ((IntKind.wrap .i64 ((IntKind.wrap .i64 (x.1.2.1 + r1)) + r0.1.1.1.2.1)), ((IntKind.wrap .i64 (x.1.2.2.1 + 1)), ()))), (x.2.1, ()))
      else
        none
    else
      some ((x.1.2.1, ()), ())
  else
    some ((x.1.2.1, ()), ())

def leatref50_Least (N : Nat) (a0 : (List (Ti10 × (List Int)))) (a1 : Int) : Option Int :=
  (iter (leatref50_Least_L3 N) N ((a1, (0, (0, ()))), (a0, ()))).bind fun r0 =>
  some r0.1.1

def leatref09_Is (_N : Nat) (a0 : Int) : Option Bool :=
  bif ((a0 == 0) == false) then
    bif ((a0 == 1) == false) then
      bif ((a0 == 2) == false) then
        some (a0 == 3)
      else
        some true
    else
      some true
  else
    some true

def leatref09_Legal (N : Nat) (a0 : Int) (a1 : Int) : Option Bool :=
  (leatref09_Is N a0).bind fun r0 =>
  bif ((!r0) == false) then
    (leatref09_Is N a1).bind fun r1 =>
    bif (!r1) then
      some false
    else
      bif (a0 == a1) then
        some true
      else
        bif ((a1 == 3) == true) then
          some (! (a0 == 0))
        else
          some false
  else
    some false

def leatlaw50_ChainKeeps_L5 (_N : Nat) (F : ((Int × (Int × (Int × Unit))) × ((List (Ti10 × (List Int))) × ((List Ti5) × ((List Ti5) × Unit)))) → Option (Unit × ((List (Ti10 × (List Int))) × ((List Ti5) × Unit)))) (x : ((Int × (Int × (Int × Unit))) × ((List (Ti10 × (List Int))) × ((List Ti5) × ((List Ti5) × Unit))))) : Option (Unit × ((List (Ti10 × (List Int))) × ((List Ti5) × Unit))) :=
  bif (decide (x.1.2.2.1 < x.1.2.1)) then
    bif ((decide ((0 : Int) ≤ x.1.2.2.1)) && (decide (x.1.2.2.1 < (((x.2.2.2.1).length : Nat) : Int)))) then
      bif (decide ((((x.2.2.1).length + 1) * 40) ≤ 140737488355328)) then
        F (((IntKind.wrap .i64 (x.1.1 + (bits .and .i64 (x.2.2.2.1.getD (x.1.2.2.1 : Int).toNat (0, (0, (0, (0, 0))))).2.2.2.2 1023))), (x.1.2.1, ((IntKind.wrap .i64 (x.1.2.2.1 + 1)), ()))), (x.2.1, ((x.2.2.1 ++ ([((x.2.2.2.1.getD (x.1.2.2.1 : Int).toNat (0, (0, (0, (0, 0))))).1, (x.1.2.2.1, ((x.2.2.2.1.getD (x.1.2.2.1 : Int).toNat (0, (0, (0, (0, 0))))).2.2.1, ((bits .and .i64 (x.2.2.2.1.getD (x.1.2.2.1 : Int).toNat (0, (0, (0, (0, 0))))).2.2.2.1 3), (IntKind.wrap .i64 (x.1.1 + (bits .and .i64 (x.2.2.2.1.getD (x.1.2.2.1 : Int).toNat (0, (0, (0, (0, 0))))).2.2.2.2 1023)))))))] : List Ti5)), (x.2.2.2.1, ()))))
      else
        none
    else
      none
  else
    some ((), (x.2.1, (x.2.2.1, ())))

def leatlaw50_ChainKeeps_L18 (N : Nat) (F : ((Int × (Int × (Int × Unit))) × ((List (Ti10 × (List Int))) × ((List Ti5) × ((List Ti7) × Unit)))) → Option (((Bool × Unit) × Unit) ⊕ (Unit × Unit))) (x : ((Int × (Int × (Int × Unit))) × ((List (Ti10 × (List Int))) × ((List Ti5) × ((List Ti7) × Unit))))) : Option (((Bool × Unit) × Unit) ⊕ (Unit × Unit)) :=
  bif (decide (x.1.2.2.1 < x.1.2.1)) then
    bif ((decide ((0 : Int) ≤ x.1.2.2.1)) && (decide (x.1.2.2.1 < (((x.2.2.2.1).length : Nat) : Int)))) then
      bif ((decide ((0 : Int) ≤ x.1.2.2.1)) && (decide (x.1.2.2.1 < (((x.2.2.1).length : Nat) : Int)))) then
        (leatref50_Clean N (x.2.2.1.getD (x.1.2.2.1 : Int).toNat (0, (0, (0, (0, 0)))))).bind fun r0 =>
        bif ((! ((x.2.2.2.1.getD (x.1.2.2.1 : Int).toNat (0, (0, (0, (0, (0, (0, 0))))))).2.1 == x.1.2.2.1)) == false) then
          bif ((! ((x.2.2.2.1.getD (x.1.2.2.1 : Int).toNat (0, (0, (0, (0, (0, (0, 0))))))).1 == r0.1)) == false) then
            bif ((! ((x.2.2.2.1.getD (x.1.2.2.1 : Int).toNat (0, (0, (0, (0, (0, (0, 0))))))).2.2.1 == r0.2.2.1)) == false) then
              bif ((! ((x.2.2.2.1.getD (x.1.2.2.1 : Int).toNat (0, (0, (0, (0, (0, (0, 0))))))).2.2.2.2.1 == r0.2.2.2.2)) == false) then
                (leatref09_Legal N r0.2.2.2.1 (x.2.2.2.1.getD (x.1.2.2.1 : Int).toNat (0, (0, (0, (0, (0, (0, 0))))))).2.2.2.1).bind fun r1 =>
                bif ((!r1) == false) then
                  bif ((decide ((x.2.2.2.1.getD (x.1.2.2.1 : Int).toNat (0, (0, (0, (0, (0, (0, 0))))))).2.2.2.2.2.2 < 0)) == false) then
                    bif ((decide ((imn (((x.2.1).length : Nat) : Int) 8) < (x.2.2.2.1.getD (x.1.2.2.1 : Int).toNat (0, (0, (0, (0, (0, (0, 0))))))).2.2.2.2.2.2)) == false) then
                      bif (decide ((x.2.2.2.1.getD (x.1.2.2.1 : Int).toNat (0, (0, (0, (0, (0, (0, 0))))))).2.2.2.2.2.1 < r0.2.2.2.2)) then
                        some (.inl ((false, ()), ()))
                      else
                        bif (decide ((0 : Int) < (x.2.2.2.1.getD (x.1.2.2.1 : Int).toNat (0, (0, (0, (0, (0, (0, 0))))))).2.2.2.2.2.2)) then
                          F ((x.1.1, (x.1.2.1, ((IntKind.wrap .i64 (x.1.2.2.1 + 1)), ()))), (x.2.1, (x.2.2.1, (x.2.2.2.1, ()))))
                        else
                          (leatref50_Least N x.2.1 r0.2.2.1).bind fun r2 =>
                          bif (decide ((x.2.2.2.1.getD (x.1.2.2.1 : Int).toNat (0, (0, (0, (0, (0, (0, 0))))))).2.2.2.2.2.1 < (imn (IntKind.wrap .i64 (r0.2.2.2.2 + r2)) 67108864))) then
                            some (.inl ((false, ()), ()))
                          else
                            bif (r0.2.2.2.1 == 1) then
                              bif (decide ((x.2.2.2.1.getD (x.1.2.2.1 : Int).toNat (0, (0, (0, (0, (0, (0, 0))))))).2.2.2.2.2.1 < x.1.1)) then
                                some (.inl ((false, ()), ()))
                              else
                                F (((x.2.2.2.1.getD (x.1.2.2.1 : Int).toNat (0, (0, (0, (0, (0, (0, 0))))))).2.2.2.2.2.1, (x.1.2.1, ((IntKind.wrap .i64 (x.1.2.2.1 + 1)), ()))), (x.2.1, (x.2.2.1, (x.2.2.2.1, ()))))
                            else
                              F ((x.1.1, (x.1.2.1, ((IntKind.wrap .i64 (x.1.2.2.1 + 1)), ()))), (x.2.1, (x.2.2.1, (x.2.2.2.1, ()))))
                    else
                      some (.inl ((false, ()), ()))
                  else
                    some (.inl ((false, ()), ()))
                else
                  some (.inl ((false, ()), ()))
              else
                some (.inl ((false, ()), ()))
            else
              some (.inl ((false, ()), ()))
          else
            some (.inl ((false, ()), ()))
        else
          some (.inl ((false, ()), ()))
      else
        none
    else
      none
  else
    some (.inr ((), ()))

def leatlaw50_ChainKeeps (N : Nat) (a0 : (List (Ti10 × (List Int)))) (a1 : (List Ti5)) : Option Bool :=
  (leatlaw50_few N ((), (a0, (a1, ())))).bind fun r0 =>
  (iter (leatlaw50_ChainKeeps_L5 N) N ((0, ((((r0.2.2.1).length : Nat) : Int), (0, ()))), (r0.2.1, (([] : List Ti5), (r0.2.2.1, ()))))).bind fun r1 =>
  (chain_Run N r1.2.1 r1.2.2.1).bind fun r2 =>
  bif (! ((((r2).length : Nat) : Int) == (((r1.2.2.1).length : Nat) : Int))) then
    some false
  else
    (iter (leatlaw50_ChainKeeps_L18 N) N ((0, ((((r2).length : Nat) : Int), (0, ()))), (r1.2.1, (r1.2.2.1, (r2, ()))))).bind fun r3 =>
    match r3 with
    | .inl r4 =>
      some r4.1.1
    | .inr _ =>
      (leatlaw50_works N).bind fun r6 =>
      some r6
end Go.Proofs.YtgjmfljogaanfaaGreat.W
