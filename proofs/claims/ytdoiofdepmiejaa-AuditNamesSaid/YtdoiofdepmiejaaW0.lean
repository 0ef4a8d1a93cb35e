/- The functions of the seat, as the evaluator tells them: the texts alone. Printed by genW.py. -/
import Derived.Test.YtdoiofdepmiejaaEvT
import Derived.Test.YtdoiofdepmiejaaPMostC
namespace Go.Proofs.Ytdoiofdepmiejaa.W
open Go.Ev Go.RowKit
def audit_Most (_N : Nat) (a0 : (List (Int × Int))) : Option Int := mostT a0
def audit_names_tab0 : ByteArray := bytesL [116, 105, 109, 101]
def audit_names_tab1 : ByteArray := bytesL [107, 105, 110, 100]
def audit_names_tab2 : ByteArray := bytesL [114, 111, 119]
def audit_names_tab3 : ByteArray := bytesL [99, 111, 100, 101]
def audit_names_tab4 : ByteArray := bytesL [119, 97, 105, 116, 101, 100]
def audit_names_tab5 : ByteArray := bytesL [108, 105, 110, 107]
def audit_names_tab6 : ByteArray := bytesL [102, 117, 108, 108]
def audit_names_tab7 : ByteArray := bytesL [104, 101, 97, 114, 100]
def audit_names_tab8 : ByteArray := bytesL [115, 116, 101, 112]
def audit_names_tab9 : ByteArray := bytesL [116, 97, 108, 108, 121]
def audit_names_tab10 : ByteArray := bytesL [112, 108, 97, 110]

def audit_names (_N : Nat) : Option (ByteArray × (ByteArray × (ByteArray × (ByteArray × (ByteArray × (ByteArray × (ByteArray × (ByteArray × (ByteArray × (ByteArray × (ByteArray × ByteArray))))))))))) :=
  some (ByteArray.empty, (audit_names_tab0, (audit_names_tab1, (audit_names_tab2, (audit_names_tab3, (audit_names_tab4, (audit_names_tab5, (audit_names_tab6, (audit_names_tab7, (audit_names_tab8, (audit_names_tab9, audit_names_tab10)))))))))))

def audit_Name (N : Nat) (a0 : Int) : Option ByteArray :=
  (audit_names N).bind fun r0 =>
  bif ((decide (a0 < 0)) == false) then
    bif (decide ((12 : Int) ≤ a0)) then
      some ByteArray.empty
    else
      bif (decide (a0 = 0)) then
        some r0.1
      else
        bif (decide (a0 = 1)) then
          some r0.2.1
        else
          bif (decide (a0 = 2)) then
            some r0.2.2.1
          else
            bif (decide (a0 = 3)) then
              some r0.2.2.2.1
            else
              bif (decide (a0 = 4)) then
                some r0.2.2.2.2.1
              else
                bif (decide (a0 = 5)) then
                  some r0.2.2.2.2.2.1
                else
                  bif (decide (a0 = 6)) then
                    some r0.2.2.2.2.2.2.1
                  else
                    bif (decide (a0 = 7)) then
                      some r0.2.2.2.2.2.2.2.1
                    else
                      bif (decide (a0 = 8)) then
                        some r0.2.2.2.2.2.2.2.2.1
                      else
                        bif (decide (a0 = 9)) then
                          some r0.2.2.2.2.2.2.2.2.2.1
                        else
                          bif (decide (a0 = 10)) then
                            some r0.2.2.2.2.2.2.2.2.2.2.1
                          else
                            bif (decide (a0 = 11)) then
                              some r0.2.2.2.2.2.2.2.2.2.2.2
                            else
                              none
  else
    some ByteArray.empty

def leatref51_Name (_N : Nat) (a0 : Int) : Option ByteArray :=
  bif ((decide (a0 < 1)) == false) then
    bif (decide ((11 : Int) < a0)) then
      some ByteArray.empty
    else
      bif ((decide ((0 : Int) ≤ (IntKind.wrap .i64 (a0 - 1)))) && (decide ((IntKind.wrap .i64 (a0 - 1)) < (((([audit_names_tab0, audit_names_tab1, audit_names_tab2, audit_names_tab3, audit_names_tab4, audit_names_tab5, audit_names_tab6, audit_names_tab7, audit_names_tab8, audit_names_tab9, audit_names_tab10] : List ByteArray)).length : Nat) : Int)))) then
        some (([audit_names_tab0, audit_names_tab1, audit_names_tab2, audit_names_tab3, audit_names_tab4, audit_names_tab5, audit_names_tab6, audit_names_tab7, audit_names_tab8, audit_names_tab9, audit_names_tab10] : List ByteArray).getD ((IntKind.wrap .i64 (a0 - 1)) : Int).toNat ByteArray.empty)
      else
        none
  else
    some ByteArray.empty

def leatref51_Most_L7 (_N : Nat) (F : ((Int × (Int × (Int × (Int × (Int × Unit))))) × ((List (Int × Int)) × Unit)) → Option ((Int × (Int × (Int × (Int × Unit)))) × ((List (Int × Int)) × Unit))) (x : ((Int × (Int × (Int × (Int × (Int × Unit))))) × ((List (Int × Int)) × Unit))) : Option ((Int × (Int × (Int × (Int × Unit)))) × ((List (Int × Int)) × Unit)) :=
  bif (decide (x.1.2.2.2.2.1 < (((x.2.1).length : Nat) : Int))) then
    bif ((decide ((0 : Int) ≤ x.1.2.2.2.2.1)) && (decide (x.1.2.2.2.2.1 < (((x.2.1).length : Nat) : Int)))) then
      bif ((decide ((0 : Int) ≤ x.1.2.2.1)) && (decide (x.1.2.2.1 < (((x.2.1).length : Nat) : Int)))) then
        bif ((x.2.1.getD (x.1.2.2.2.2.1 : Int).toNat (0, 0)).1 == (x.2.1.getD (x.1.2.2.1 : Int).toNat (0, 0)).1) then
          F ((x.1.1, (x.1.2.1, (x.1.2.2.1, ((IntKind.wrap .i64 (x.1.2.2.2.1 + 1)), ((IntKind.wrap .i64 (x.1.2.2.2.2.1 + 1)), ()))))), (x.2.1, ()))
        else
          F ((x.1.1, (x.1.2.1, (x.1.2.2.1, (x.1.2.2.2.1, ((IntKind.wrap .i64 (x.1.2.2.2.2.1 + 1)), ()))))), (x.2.1, ()))
      else
        none
    else
      none
  else
    some ((x.1.1, (x.1.2.1, (x.1.2.2.1, (x.1.2.2.2.1, ())))), (x.2.1, ()))

def leatref51_Most_L3 (N : Nat) (F : ((Int × (Int × (Int × Unit))) × ((List (Int × Int)) × Unit)) → Option ((Int × Unit) × Unit)) (x : ((Int × (Int × (Int × Unit))) × ((List (Int × Int)) × Unit))) : Option ((Int × Unit) × Unit) :=
  bif (decide (x.1.2.2.1 < (((x.2.1).length : Nat) : Int))) then
    (iter (leatref51_Most_L7 N) N ((x.1.1, (x.1.2.1, (x.1.2.2.1, (0, (0, ()))))), (x.2.1, ()))).bind fun r0 =>
    bif ((decide (r0.1.2.1 < r0.1.2.2.2.1)) == false) then
      bif ((r0.1.2.2.2.1 == r0.1.2.1) == true) then
        bif ((decide ((0 : Int) ≤ r0.1.2.2.1)) && (decide (r0.1.2.2.1 < (((r0.2.1).length : Nat) : Int)))) then
          bif (decide ((r0.2.1.getD (r0.1.2.2.1 : Int).toNat (0, 0)).1 < r0.1.1)) then
            bif ((decide ((0 : Int) ≤ r0.1.2.2.1)) && (decide (r0.1.2.2.1 < (((r0.2.1).length : Nat) : Int)))) then
              F (((r0.2.1.getD (r0.1.2.2.1 : Int).toNat (0, 0)).1, (r0.1.2.2.2.1, ((IntKind.wrap .i64 (r0.1.2.2.1 + 1)), ()))), (r0.2.1, ()))
            else
              none
          else
            F ((r0.1.1, (r0.1.2.1, ((IntKind.wrap .i64 (r0.1.2.2.1 + 1)), ()))), (r0.2.1, ()))
        else
          none
      else
        F ((r0.1.1, (r0.1.2.1, ((IntKind.wrap .i64 (r0.1.2.2.1 + 1)), ()))), (r0.2.1, ()))
    else
      bif ((decide ((0 : Int) ≤ r0.1.2.2.1)) && (decide (r0.1.2.2.1 < (((r0.2.1).length : Nat) : Int)))) then
        F (((r0.2.1.getD (r0.1.2.2.1 : Int).toNat (0, 0)).1, (r0.1.2.2.2.1, ((IntKind.wrap .i64 (r0.1.2.2.1 + 1)), ()))), (r0.2.1, ()))
      else
        none
  else
    some ((x.1.1, ()), ())

def leatref51_Most (N : Nat) (a0 : (List (Int × Int))) : Option Int :=
  (iter (leatref51_Most_L3 N) N ((0, (0, (0, ()))), (a0, ()))).bind fun r0 =>
  some r0.1.1

def leatref39_keep (_N : Nat) (a0 : Int) (a1 : Int) (a2 : Int) : Option Int :=
  some (imn (imx a0 a1) a2)

def leatref36_keep (_N : Nat) (a0 : Int) (a1 : Int) (a2 : Int) : Option Int :=
  some (imn (imx a0 a1) a2)

def leatref36_Limit (N : Nat) (a0 : (Int × (Int × (Int × (Int × (Int × (Int × (Int × Int)))))))) : Option (Int × (Int × (Int × (Int × (Int × (Int × (Int × Int))))))) :=
  (leatref36_keep N a0.1 1 1073741824).bind fun r0 =>
  (leatref36_keep N a0.2.1 0 67108864).bind fun r1 =>
  (leatref36_keep N a0.2.2.1 1 1125899906842624).bind fun r2 =>
  (leatref36_keep N a0.2.2.2.1 0 17179869184).bind fun r3 =>
  (leatref36_keep N a0.2.2.2.2.1 0 17179869184).bind fun r4 =>
  (leatref36_keep N a0.2.2.2.2.2.1 0 65536).bind fun r5 =>
  (leatref36_keep N a0.2.2.2.2.2.2.1 0 67108864).bind fun r6 =>
  (leatref36_keep N a0.2.2.2.2.2.2.2 0 67108864).bind fun r7 =>
  some (r0, (r1, (r2, (r3, (r4, (r5, (r6, r7)))))))

def leatref29_Kind (_N : Nat) (a0 : Int) : Option Int :=
  some (imn (imx a0 0) 2)

def leatref31_keep (_N : Nat) (a0 : Int) (a1 : Int) (a2 : Int) : Option Int :=
  some (imn (imx a0 a1) a2)

def leatref31_Limit (N : Nat) (a0 : (Int × (Int × (Int × (Int × (Int × (Int × (Int × (Int × (Int × Int)))))))))) : Option (Int × (Int × (Int × (Int × (Int × (Int × (Int × (Int × (Int × Int))))))))) :=
  (leatref29_Kind N a0.1).bind fun r0 =>
  (leatref31_keep N a0.2.1 1 65536).bind fun r1 =>
  (leatref31_keep N a0.2.2.1 1 1000).bind fun r2 =>
  (leatref31_keep N a0.2.2.2.1 0 1099511627776).bind fun r3 =>
  (leatref31_keep N a0.2.2.2.2.1 1 1125899906842624).bind fun r4 =>
  (leatref31_keep N a0.2.2.2.2.2.1 r4 1125899906842624).bind fun r5 =>
  (leatref31_keep N a0.2.2.2.2.2.2.1 1 1125899906842624).bind fun r6 =>
  (leatref31_keep N a0.2.2.2.2.2.2.2.1 1 1125899906842624).bind fun r7 =>
  (leatref31_keep N a0.2.2.2.2.2.2.2.2.1 262144 16777216).bind fun r8 =>
  (leatref31_keep N a0.2.2.2.2.2.2.2.2.2 r1 1073741824).bind fun r9 =>
  some (r0, (r1, (r2, (r3, (r4, (r5, (r6, (r7, (r8, r9)))))))))

def config_within (_N : Nat) (a0 : Int) (a1 : Int) (a2 : Int) : Option Bool :=
  bif ((decide (a1 ≤ a0)) == true) then
    some (decide (a0 ≤ a2))
  else
    some false
def sat_Clamp (_N : Nat) (a0 : Int) (a1 : Int) (a2 : Int) : Option Int :=
  some (if (if a2 < a0 then a2 else a0) > a1 then (if a2 < a0 then a2 else a0) else a1)

def dual_Limit (N : Nat) (a0 : (Int × (Int × (Int × (Int × (Int × (Int × (Int × Int)))))))) : Option (Int × (Int × (Int × (Int × (Int × (Int × (Int × Int))))))) :=
  (sat_Clamp N a0.1 1 1073741824).bind fun r0 =>
  (sat_Clamp N a0.2.1 0 67108864).bind fun r1 =>
  (sat_Clamp N a0.2.2.1 1 1125899906842624).bind fun r2 =>
  (sat_Clamp N a0.2.2.2.1 0 17179869184).bind fun r3 =>
  (sat_Clamp N a0.2.2.2.2.1 0 17179869184).bind fun r4 =>
  (sat_Clamp N a0.2.2.2.2.2.1 0 65536).bind fun r5 =>
  (sat_Clamp N a0.2.2.2.2.2.2.1 0 67108864).bind fun r6 =>
  (sat_Clamp N a0.2.2.2.2.2.2.2 0 67108864).bind fun r7 =>
  some (r0, (r1, (r2, (r3, (r4, (r5, (r6, r7)))))))

def sender_Limit (N : Nat) (a0 : (Int × (Int × (Int × (Int × (Int × (Int × (Int × (Int × (Int × Int)))))))))) : Option (Int × (Int × (Int × (Int × (Int × (Int × (Int × (Int × (Int × Int))))))))) :=
  (sat_Clamp N a0.2.1 1 65536).bind fun r0 =>
  (sat_Clamp N a0.2.2.1 1 1000).bind fun r1 =>
  (sat_Clamp N a0.2.2.2.1 0 1099511627776).bind fun r2 =>
  (sat_Clamp N a0.2.2.2.2.1 1 1125899906842624).bind fun r3 =>
  (sat_Clamp N a0.2.2.2.2.2.1 r3 1125899906842624).bind fun r4 =>
  (sat_Clamp N a0.2.2.2.2.2.2.1 1 1125899906842624).bind fun r5 =>
  (sat_Clamp N a0.2.2.2.2.2.2.2.1 1 1125899906842624).bind fun r6 =>
  (sat_Clamp N a0.2.2.2.2.2.2.2.2.1 262144 16777216).bind fun r7 =>
  (sat_Clamp N a0.2.2.2.2.2.2.2.2.2 r0 1073741824).bind fun r8 =>
  some ((imx 0 (imn a0.1 2)), (r0, (r1, (r2, (r3, (r4, (r5, (r6, (r7, r8)))))))))
def trace_names_tab0 : ByteArray := bytesL [119, 101, 110, 116]
def trace_names_tab1 : ByteArray := bytesL [108, 111, 115, 116]
def trace_names_tab2 : ByteArray := bytesL [116, 111, 108, 100]
def trace_names_tab3 : ByteArray := bytesL [115, 116, 97, 108, 101]
def trace_names_tab4 : ByteArray := bytesL [103, 111, 110, 101]
def trace_names_tab5 : ByteArray := bytesL [102, 105, 114, 101, 100]
def trace_names_tab6 : ByteArray := bytesL [109, 111, 118, 101, 100]

def trace_names (_N : Nat) : Option (ByteArray × (ByteArray × (ByteArray × (ByteArray × (ByteArray × (ByteArray × (ByteArray × (ByteArray × ByteArray)))))))) :=
  some (ByteArray.empty, (trace_names_tab0, (trace_names_tab1, (trace_names_tab2, (audit_names_tab7, (trace_names_tab3, (trace_names_tab4, (trace_names_tab5, trace_names_tab6))))))))

def trace_Name (N : Nat) (a0 : Int) : Option ByteArray :=
  (trace_names N).bind fun r0 =>
  bif ((decide (a0 < 0)) == false) then
    bif (decide ((9 : Int) ≤ a0)) then
      some ByteArray.empty
    else
      bif (decide (a0 = 0)) then
        some r0.1
      else
        bif (decide (a0 = 1)) then
          some r0.2.1
        else
          bif (decide (a0 = 2)) then
            some r0.2.2.1
          else
            bif (decide (a0 = 3)) then
              some r0.2.2.2.1
            else
              bif (decide (a0 = 4)) then
                some r0.2.2.2.2.1
              else
                bif (decide (a0 = 5)) then
                  some r0.2.2.2.2.2.1
                else
                  bif (decide (a0 = 6)) then
                    some r0.2.2.2.2.2.2.1
                  else
                    bif (decide (a0 = 7)) then
                      some r0.2.2.2.2.2.2.2.1
                    else
                      bif (decide (a0 = 8)) then
                        some r0.2.2.2.2.2.2.2.2
                      else
                        none
  else
    some ByteArray.empty
def sat_size (_N : Nat) (a0 : Int) : Option Int :=
  bif (decide (a0 < 0)) then
    some (IntKind.wrap .u64 (0 - (IntKind.wrap .u64 a0)))
  else some (IntKind.wrap .u64 a0)
def bits_Mul64 (_N : Nat) (a0 : Int) (a1 : Int) : Option (Int × Int) :=
  some ((IntKind.wrap .u64 ((IntKind.wrap .u64 ((IntKind.wrap .u64 ((Int.fdiv a0 4294967296) * (Int.fdiv a1 4294967296))) + (Int.fdiv (IntKind.wrap .u64 ((IntKind.wrap .u64 ((Int.fdiv a0 4294967296) * (bits .and .u64 a1 4294967295))) + (Int.fdiv (IntKind.wrap .u64 ((bits .and .u64 a0 4294967295) * (bits .and .u64 a1 4294967295))) 4294967296))) 4294967296))) + (Int.fdiv (IntKind.wrap .u64 ((bits .and .u64 (IntKind.wrap .u64 ((IntKind.wrap .u64 ((Int.fdiv a0 4294967296) * (bits .and .u64 a1 4294967295))) + (Int.fdiv (IntKind.wrap .u64 ((bits .and .u64 a0 4294967295) * (bits .and .u64 a1 4294967295))) 4294967296))) 4294967295) + (IntKind.wrap .u64 ((bits .and .u64 a0 4294967295) * (Int.fdiv a1 4294967296))))) 4294967296))), (IntKind.wrap .u64 (a0 * a1)))
def sat_end (_N : Nat) (a0 : Bool) : Option Int :=
  bif a0 then
    some (-9223372036854775808)
  else some 9223372036854775807
def sat_signed (_N : Nat) (a0 : Int) (a1 : Bool) : Option Int :=
  bif (a1 == true) then
    bif (decide ((9223372036854775807 : Int) < a0)) then
      some (-9223372036854775808)
    else bif a1 then
      some (IntKind.wrap .i64 (0 - (IntKind.wrap .i64 a0)))
    else bif (decide ((9223372036854775807 : Int) < a0)) then
      some 9223372036854775807
    else some (IntKind.wrap .i64 a0)
  else bif a1 then
    some (IntKind.wrap .i64 (0 - (IntKind.wrap .i64 a0)))
  else bif (decide ((9223372036854775807 : Int) < a0)) then
    some 9223372036854775807
  else some (IntKind.wrap .i64 a0)
def sat_Mul (N : Nat) (a0 : Int) (a1 : Int) : Option Int :=
  (sat_size N a0).bind fun r0 =>
  (sat_size N a1).bind fun r1 =>
  (bits_Mul64 N r0 r1).bind fun r2 =>
  bif (decide ((0 : Int) < r2.1)) then
    (sat_end N (!((decide (a0 < 0)) == (decide (a1 < 0))))).bind fun r3 =>
    some r3
  else (sat_signed N r2.2 (!((decide (a0 < 0)) == (decide (a1 < 0))))).bind fun r4 =>
  some r4

def audit_look_bytes (_N : Nat) (x : ((Int × Unit) × (Unit × Unit))) : Option Int :=
  bif (decide (x.1.1 = 0)) then
    some 0
  else
    bif (decide (x.1.1 = 1)) then
      some 0
    else
      none

def audit_look_tally (N : Nat) (x : (((Int × (Int × (Int × (Int × (Int × (Int × (Int × (Int × Int)))))))) × (Int × Unit)) × ((Int × (Int × Unit)) × Unit))) : Option Bool :=
  bif (decide (x.1.2.1 = 0)) then
    bif ((x.1.1.2.2.2.1 == 0) == true) then
      (audit_look_bytes N ((0, ()), ((), ()))).bind fun r0 =>
      bif ((x.1.1.2.2.2.2.2.2.2.1 == r0) == true) then
        some (x.1.1.2.1 == x.2.1.1)
      else
        some false
    else
      some false
  else
    bif (decide (x.1.2.1 = 1)) then
      bif ((x.1.1.2.2.2.1 == 0) == true) then
        (audit_look_bytes N ((1, ()), ((), ()))).bind fun r1 =>
        bif ((x.1.1.2.2.2.2.2.2.2.1 == r1) == true) then
          some (x.1.1.2.1 == x.2.1.2.1)
        else
          some false
      else
        some false
    else
      none

def audit_look_waits (N : Nat) (_x : (Unit × (Unit × Unit))) : Option Int :=
  (audit_look_bytes N ((0, ()), ((), ()))).bind fun r0 =>
  (audit_look_bytes N ((1, ()), ((), ()))).bind fun r1 =>
  some (IntKind.wrap .i64 (r0 + r1))

def leatlaw51_works (_N : Nat) : Option Bool :=
  some true

def leatlaw51_AuditNames (N : Nat) (a0 : Int) (a1 : (List (Int × Int))) : Option Bool :=
  bif ((decide ((0 : Int) ≤ (imn (((a1).length : Nat) : Int) 100))) && (decide ((imn (((a1).length : Nat) : Int) 100) ≤ (((a1).length : Nat) : Int)))) then
    (audit_Name N a0).bind fun r0 =>
    (leatref51_Name N a0).bind fun r1 =>
    bif ((r0.toList == r1.toList) == true) then
      (audit_Most N (cutL a1 0 (imn (((a1).length : Nat) : Int) 100))).bind fun r2 =>
      (leatref51_Most N (cutL a1 0 (imn (((a1).length : Nat) : Int) 100))).bind fun r3 =>
      bif ((r2 == r3) == true) then
        (leatlaw51_works N).bind fun r4 =>
        some r4
      else
        some false
    else
      some false
  else
    none
end Go.Proofs.Ytdoiofdepmiejaa.W
