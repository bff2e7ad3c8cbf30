/- What each function gives, told as plain code. -/
import Derived.Test.YtbacjgkmkkphdaaGreatDoorC
set_option linter.unusedSectionVars false
set_option linter.unusedVariables false
set_option linter.unusedSimpArgs false
namespace Go.Proofs.YtbacjgkmkkphdaaGreatDoor
open Go Go.Own
set_option maxRecDepth 100000
theorem q_laws_szRecord (a0 a1 : D) : e_laws_szRecord.F [a0, a1] = rn (
 if (decide ((IntKind.wrap .i64 (a1.i - ((a0.fld 0).s.length : Int))) < 0)) then
 ou 0 [(.int (-1))]
 else
 if (decide ((IntKind.wrap .i64 ((IntKind.wrap .i64 (a1.i - ((a0.fld 0).s.length : Int))) - ((a0.fld 3).s.length : Int))) < 0)) then
 ou 0 [(.int (-1))]
 else
 ou 0 [(.int (IntKind.wrap .i64 ((IntKind.wrap .i64 (a1.i - ((a0.fld 0).s.length : Int))) - ((a0.fld 3).s.length : Int))))]) := by kernel_rfl
theorem q_laws_szRecordS (a0 a1 : D) : e_laws_szRecordS.F [a0, a1] = rn (
 if (decide ((IntKind.wrap .i64 (a1.i - (a0.l.length : Int))) < 0)) then
 ou 0 [(.int (-1))]
 else
 (loopF (fun l2 =>
 if (decide ((gd l2 1).i < (a0.l.length : Int))) then
 if (inb (gd l2 1).i a0.l.length) then
 (e_laws_szRecord.F [(gd a0.l (gd l2 1).i.toNat), (gd l2 0)]).bind fun r4 =>
 if (decide (r4.i < 0)) then
 ou 1 [(.int (-1))]
 else
 ou 0 [r4, (.int (IntKind.wrap .i64 ((gd l2 1).i + 1)))]
 else none
 else
 ou 2 [(gd l2 0)]) [(.int (IntKind.wrap .i64 (a1.i - (a0.l.length : Int)))), (.int 0)]).bind fun o2 =>
 sel2 o2.1 (ou 0 [(gd o2.2 0)]) fun n4 =>
 sel2 n4 (ou 0 [(gd o2.2 0)]) fun _ => none) := by kernel_rfl
theorem q_laws_szZone (a0 a1 : D) : e_laws_szZone.F [a0, a1] = rn (
 if (decide ((IntKind.wrap .i64 (a1.i - ((a0.fld 0).s.length : Int))) < 0)) then
 ou 0 [(.int (-1))]
 else
 (e_laws_szRecordS.F [(a0.fld 2), (.int (IntKind.wrap .i64 (a1.i - ((a0.fld 0).s.length : Int))))]).bind fun r2 =>
 if (decide (r2.i < 0)) then
 ou 0 [(.int (-1))]
 else
 ou 0 [r2]) := by kernel_rfl
theorem q_laws_szZoneS (a0 a1 : D) : e_laws_szZoneS.F [a0, a1] = rn (
 if (decide ((IntKind.wrap .i64 (a1.i - (a0.l.length : Int))) < 0)) then
 ou 0 [(.int (-1))]
 else
 (loopF (fun l2 =>
 if (decide ((gd l2 1).i < (a0.l.length : Int))) then
 if (inb (gd l2 1).i a0.l.length) then
 (e_laws_szZone.F [(gd a0.l (gd l2 1).i.toNat), (gd l2 0)]).bind fun r4 =>
 if (decide (r4.i < 0)) then
 ou 1 [(.int (-1))]
 else
 ou 0 [r4, (.int (IntKind.wrap .i64 ((gd l2 1).i + 1)))]
 else none
 else
 ou 2 [(gd l2 0)]) [(.int (IntKind.wrap .i64 (a1.i - (a0.l.length : Int)))), (.int 0)]).bind fun o2 =>
 sel2 o2.1 (ou 0 [(gd o2.2 0)]) fun n4 =>
 sel2 n4 (ou 0 [(gd o2.2 0)]) fun _ => none) := by kernel_rfl
theorem q_laws_szWorld (a0 a1 : D) : e_laws_szWorld.F [a0, a1] = rn (
 (e_laws_szZoneS.F [(a0.fld 0), a1]).bind fun r2 =>
 if (decide (r2.i < 0)) then
 ou 0 [(.int (-1))]
 else
 ou 0 [r2]) := by kernel_rfl
theorem q_laws_toRecord (a0 : D) : e_laws_toRecord.F [a0] = rn (
 ou 0 [(.pair (a0.fld 0) (.pair (a0.fld 1) (.pair (a0.fld 2) (.pair (a0.fld 3) .unit))))]) := by kernel_rfl
theorem q_laws_toRecordS (a0 : D) : e_laws_toRecordS.F [a0] = rn (
 if (makeOk 48 (a0.l.length : Int)) then
 (loopF (fun l1 =>
 if (decide ((gd l1 1).i < (a0.l.length : Int))) then
 if (inb (gd l1 1).i a0.l.length) then
 (e_laws_toRecord.F [(gd a0.l (gd l1 1).i.toNat)]).bind fun r3 =>
 if (inb (gd l1 1).i (gd l1 0).l.length) then
 ou 0 [(D.lst ((gd l1 0).l.set (gd l1 1).i.toNat r3)), (.int (IntKind.wrap .i64 ((gd l1 1).i + 1)))]
 else none
 else none
 else
 ou 1 [(gd l1 0)]) [(D.lst (List.replicate (a0.l.length : Int).toNat (.pair (.str []) (.pair (.int 0) (.pair (.int 0) (.pair (.str []) .unit)))))), (.int 0)]).bind fun o1 =>
 sel2 o1.1 (ou 0 [(gd o1.2 0)]) fun _ => none
 else none) := by kernel_rfl
theorem q_laws_toZone (a0 : D) : e_laws_toZone.F [a0] = rn (
 (e_laws_toRecordS.F [(a0.fld 2)]).bind fun r1 =>
 ou 0 [(.pair (a0.fld 0) (.pair (a0.fld 1) (.pair r1 .unit)))]) := by kernel_rfl
theorem q_laws_toZoneS (a0 : D) : e_laws_toZoneS.F [a0] = rn (
 if (makeOk 48 (a0.l.length : Int)) then
 (loopF (fun l1 =>
 if (decide ((gd l1 1).i < (a0.l.length : Int))) then
 if (inb (gd l1 1).i a0.l.length) then
 (e_laws_toZone.F [(gd a0.l (gd l1 1).i.toNat)]).bind fun r3 =>
 if (inb (gd l1 1).i (gd l1 0).l.length) then
 ou 0 [(D.lst ((gd l1 0).l.set (gd l1 1).i.toNat r3)), (.int (IntKind.wrap .i64 ((gd l1 1).i + 1)))]
 else none
 else none
 else
 ou 1 [(gd l1 0)]) [(D.lst (List.replicate (a0.l.length : Int).toNat (.pair (.str []) (.pair (.int 0) (.pair (D.lst []) .unit))))), (.int 0)]).bind fun o1 =>
 sel2 o1.1 (ou 0 [(gd o1.2 0)]) fun _ => none
 else none) := by kernel_rfl
theorem q_laws_toWorld (a0 : D) : e_laws_toWorld.F [a0] = rn (
 (e_laws_toZoneS.F [(a0.fld 0)]).bind fun r1 =>
 ou 0 [(.pair r1 .unit)]) := by kernel_rfl
theorem q_spec_l1In (a0 a1 a2 : D) : e_spec_l1In.F [a0, a1, a2] = rn (
 (if (decide (a0.i ≥ a1.i)) then
 ou 0 [(.bool (decide (a0.i ≤ a2.i)))]
 else
 ou 0 [(.bool false)]).bind fun o3 =>
 sel2 o3.1 (ou 0 [(gd o3.2 0)]) fun _ => none) := by kernel_rfl
theorem q_spec_l1Split (a0 a1 : D) : e_spec_l1Split.F [a0, a1] = rn (
 (loopF (fun l2 =>
 if (decide ((gd l2 2).i < (a0.s.length : Int))) then
 (if (inb (gd l2 2).i a0.s.length) then
 if ((byteAt a0.s (gd l2 2).i.toNat : Int) == a1.i) then
 if (slOk (gd l2 1).i (gd l2 2).i (a0.s.length : Int)) then
 if (appOk 16 (gd l2 0).l ((.str ((a0.s.take (gd l2 2).i.toNat).drop (gd l2 1).i.toNat)) :: ([] : List D))) then
 ou 0 [(D.lst ((gd l2 0).l ++ ((.str ((a0.s.take (gd l2 2).i.toNat).drop (gd l2 1).i.toNat)) :: ([] : List D)))), (.int (IntKind.wrap .i64 ((gd l2 2).i + 1)))]
 else none
 else none
 else
 ou 0 [(gd l2 0), (gd l2 1)]
 else none).bind fun o5 =>
 sel2 o5.1 (ou 0 [(gd o5.2 0), (gd o5.2 1), (.int (IntKind.wrap .i64 ((gd l2 2).i + 1)))]) fun _ => none
 else
 ou 1 [(gd l2 0), (gd l2 1)]) [(D.lst []), (.int 0), (.int 0)]).bind fun o2 =>
 sel2 o2.1 (if (slOk (gd o2.2 1).i (a0.s.length : Int) (a0.s.length : Int)) then
 if (appOk 16 (gd o2.2 0).l ((.str ((a0.s.take (a0.s.length : Int).toNat).drop (gd o2.2 1).i.toNat)) :: ([] : List D))) then
 ou 0 [(D.lst ((gd o2.2 0).l ++ ((.str ((a0.s.take (a0.s.length : Int).toNat).drop (gd o2.2 1).i.toNat)) :: ([] : List D))))]
 else none
 else none) fun _ => none) := by kernel_rfl
theorem q_spec_l1Label (a0 : D) : e_spec_l1Label.F [a0] = rn (
 if (a0.s == ([42] : List UInt8)) then
 ou 0 [(.bool true)]
 else
 (loopF (fun l1 =>
 if (decide ((gd l1 0).i < (a0.s.length : Int))) then
 if (inb (gd l1 0).i a0.s.length) then
 (if (decide ((byteAt a0.s (gd l1 0).i.toNat : Int) ≥ 97)) then
 if (decide ((byteAt a0.s (gd l1 0).i.toNat : Int) ≤ 122)) then
 ou 0 [(.bool (!true))]
 else
 if (decide ((byteAt a0.s (gd l1 0).i.toNat : Int) ≥ 48)) then
 if (decide ((byteAt a0.s (gd l1 0).i.toNat : Int) ≤ 57)) then
 ou 0 [(.bool (!true))]
 else
 if ((byteAt a0.s (gd l1 0).i.toNat : Int) == 45) then
 ou 0 [(.bool (!true))]
 else
 ou 0 [(.bool (!((byteAt a0.s (gd l1 0).i.toNat : Int) == 95)))]
 else
 if ((byteAt a0.s (gd l1 0).i.toNat : Int) == 45) then
 ou 0 [(.bool (!true))]
 else
 ou 0 [(.bool (!((byteAt a0.s (gd l1 0).i.toNat : Int) == 95)))]
 else
 if (decide ((byteAt a0.s (gd l1 0).i.toNat : Int) ≥ 48)) then
 if (decide ((byteAt a0.s (gd l1 0).i.toNat : Int) ≤ 57)) then
 ou 0 [(.bool (!true))]
 else
 if ((byteAt a0.s (gd l1 0).i.toNat : Int) == 45) then
 ou 0 [(.bool (!true))]
 else
 ou 0 [(.bool (!((byteAt a0.s (gd l1 0).i.toNat : Int) == 95)))]
 else
 if ((byteAt a0.s (gd l1 0).i.toNat : Int) == 45) then
 ou 0 [(.bool (!true))]
 else
 ou 0 [(.bool (!((byteAt a0.s (gd l1 0).i.toNat : Int) == 95)))]).bind fun o2 =>
 sel2 o2.1 (if (gd o2.2 0).b then
 ou 1 []
 else
 ou 0 [(.int (IntKind.wrap .i64 ((gd l1 0).i + 1)))]) fun _ => none
 else none
 else
 ou 2 []) [(.int 0)]).bind fun o1 =>
 sel2 o1.1 (ou 0 [(.bool false)]) fun n4 =>
 sel2 n4 ((e_spec_l1In.F [(.int (a0.s.length : Int)), (.int 1), (.int 20)]).bind fun r1 =>
 ou 0 [r1]) fun _ => none) := by kernel_rfl
theorem q_spec_l1Labels (a0 : D) : e_spec_l1Labels.F [a0] = rn (
 if (a0.s == ([] : List UInt8)) then
 ou 0 [(.pair (D.lst []) (.pair (.bool true) .unit))]
 else
 (e_spec_l1Split.F [a0, (.int 46)]).bind fun r1 =>
 (loopF (fun l2 =>
 if (decide ((gd l2 0).i < (r1.l.length : Int))) then
 if (inb (gd l2 0).i r1.l.length) then
 (e_spec_l1Label.F [(gd r1.l (gd l2 0).i.toNat)]).bind fun r3 =>
 if (!r3.b) then
 ou 1 []
 else
 ou 0 [(.int (IntKind.wrap .i64 ((gd l2 0).i + 1)))]
 else none
 else
 ou 2 []) [(.int 0)]).bind fun o2 =>
 sel2 o2.1 (ou 0 [(.pair (D.lst []) (.pair (.bool false) .unit))]) fun n4 =>
 sel2 n4 ((if (decide ((a0.s.length : Int) ≤ 60)) then
 ou 0 [r1, (.bool (decide ((r1.l.length : Int) ≤ 8)))]
 else
 ou 0 [r1, (.bool false)]).bind fun o2 =>
 sel2 o2.1 (ou 0 [(.pair (gd o2.2 0) (.pair (gd o2.2 1) .unit))]) fun _ => none) fun _ => none) := by kernel_rfl
theorem q_spec_l6Apex (a0 : D) : e_spec_l6Apex.F [a0] = rn (
 (e_spec_l1Labels.F [a0]).bind fun r1 =>
 (loopF (fun l2 =>
 if (decide ((gd l2 1).i < ((r1.fld 0).l.length : Int))) then
 (if (inb (gd l2 1).i (r1.fld 0).l.length) then
 if (gd l2 0).b then
 ou 0 [(.bool (!((gd (r1.fld 0).l (gd l2 1).i.toNat).s == ([42] : List UInt8))))]
 else
 ou 0 [(.bool false)]
 else none).bind fun o4 =>
 sel2 o4.1 (ou 0 [(gd o4.2 0), (.int (IntKind.wrap .i64 ((gd l2 1).i + 1)))]) fun _ => none
 else
 ou 1 [(gd l2 0)]) [(r1.fld 1), (.int 0)]).bind fun o2 =>
 sel2 o2.1 (ou 0 [(gd o2.2 0)]) fun _ => none) := by kernel_rfl
theorem q_spec_l1Int (a0 : D) : e_spec_l1Int.F [a0] = rn (
 ((e_spec_l1In.F [(.int (a0.s.length : Int)), (.int 1), (.int 10)]).bind fun r1 =>
 if (!r1.b) then
 ou 0 [(.bool true)]
 else
 if (inb 0 a0.s.length) then
 if ((byteAt a0.s 0 : Int) == 48) then
 ou 0 [(.bool (decide ((a0.s.length : Int) > 1)))]
 else
 ou 0 [(.bool false)]
 else none).bind fun o1 =>
 sel2 o1.1 (if (gd o1.2 0).b then
 ou 0 [(.int (-1))]
 else
 (loopF (fun l2 =>
 if (decide ((gd l2 1).i < (a0.s.length : Int))) then
 (if (inb (gd l2 1).i a0.s.length) then
 if (decide ((byteAt a0.s (gd l2 1).i.toNat : Int) < 48)) then
 ou 0 [(.bool true)]
 else
 ou 0 [(.bool (decide ((byteAt a0.s (gd l2 1).i.toNat : Int) > 57)))]
 else none).bind fun o4 =>
 sel2 o4.1 (if (gd o4.2 0).b then
 ou 1 [(.int (-1))]
 else
 if (inb (gd l2 1).i a0.s.length) then
 ou 0 [(.int (IntKind.wrap .i64 ((IntKind.wrap .i64 (10 * (gd l2 0).i)) + (IntKind.wrap .i64 (IntKind.wrap .u8 ((byteAt a0.s (gd l2 1).i.toNat : Int) - 48)))))), (.int (IntKind.wrap .i64 ((gd l2 1).i + 1)))]
 else none) fun _ => none
 else
 ou 2 [(gd l2 0)]) [(.int 0), (.int 0)]).bind fun o2 =>
 sel2 o2.1 (ou 0 [(gd o2.2 0)]) fun n6 =>
 sel2 n6 (ou 0 [(gd o2.2 0)]) fun _ => none) fun _ => none) := by kernel_rfl
theorem q_spec_l3Number (a0 a1 : D) : e_spec_l3Number.F [a0, a1] = rn (
 if (makeOk 1 a1.i) then
 (loopF (fun l2 =>
 if (decide ((gd l2 2).i ≥ 0)) then
 if (inb (gd l2 2).i (gd l2 1).l.length) then
 if (decide (0 ≤ 8)) then
 ou 0 [(.int ((gd l2 0).i.fdiv (2 ^ min 8 (IntKind.bits .i64)))), (D.lst ((gd l2 1).l.set (gd l2 2).i.toNat (.int (IntKind.wrap .u8 (gd l2 0).i)))), (.int (IntKind.wrap .i64 ((gd l2 2).i - 1)))]
 else none
 else none
 else
 ou 1 [(gd l2 1)]) [a0, (D.lst (List.replicate a1.i.toNat (.int 0))), (.int (IntKind.wrap .i64 (a1.i - 1)))]).bind fun o2 =>
 sel2 o2.1 (ou 0 [(.str (bytesStr (gd o2.2 0).l))]) fun _ => none
 else none) := by kernel_rfl
theorem q_spec_l3Target (a0 : D) : e_spec_l3Target.F [a0] = rn (
 (e_spec_l1Labels.F [a0]).bind fun r1 =>
 (loopF (fun l2 =>
 if (decide ((gd l2 1).i < ((r1.fld 0).l.length : Int))) then
 (if (inb (gd l2 1).i (r1.fld 0).l.length) then
 if (gd l2 0).b then
 ou 0 [(.bool (!((gd (r1.fld 0).l (gd l2 1).i.toNat).s == ([42] : List UInt8))))]
 else
 ou 0 [(.bool false)]
 else none).bind fun o4 =>
 sel2 o4.1 (ou 0 [(gd o4.2 0), (.int (IntKind.wrap .i64 ((gd l2 1).i + 1)))]) fun _ => none
 else
 ou 1 [(gd l2 0)]) [(r1.fld 1), (.int 0)]).bind fun o2 =>
 sel2 o2.1 ((if (gd o2.2 0).b then
 ou 0 [(.bool (!(a0.s == ([] : List UInt8))))]
 else
 ou 0 [(.bool false)]).bind fun o3 =>
 sel2 o3.1 (ou 0 [(gd o3.2 0)]) fun _ => none) fun _ => none) := by kernel_rfl
theorem q_spec_l2Bytes (a0 : D) : e_spec_l2Bytes.F [a0] = rn (
 (e_spec_l1Labels.F [a0]).bind fun r1 =>
 (loopF (fun l2 =>
 if (decide ((gd l2 1).i < ((r1.fld 0).l.length : Int))) then
 if (inb (gd l2 1).i (r1.fld 0).l.length) then
 if (catOk (bytesStr ((.int (IntKind.wrap .u8 ((gd (r1.fld 0).l (gd l2 1).i.toNat).s.length : Int))) :: ([] : List D))) (gd (r1.fld 0).l (gd l2 1).i.toNat).s) then
 if (catOk (gd l2 0).s ((bytesStr ((.int (IntKind.wrap .u8 ((gd (r1.fld 0).l (gd l2 1).i.toNat).s.length : Int))) :: ([] : List D))) ++ (gd (r1.fld 0).l (gd l2 1).i.toNat).s)) then
 ou 0 [(.str ((gd l2 0).s ++ ((bytesStr ((.int (IntKind.wrap .u8 ((gd (r1.fld 0).l (gd l2 1).i.toNat).s.length : Int))) :: ([] : List D))) ++ (gd (r1.fld 0).l (gd l2 1).i.toNat).s))), (.int (IntKind.wrap .i64 ((gd l2 1).i + 1)))]
 else none
 else none
 else none
 else
 ou 1 [(gd l2 0)]) [(D.str []), (.int 0)]).bind fun o2 =>
 sel2 o2.1 (if (catOk (gd o2.2 0).s ([0] : List UInt8)) then
 ou 0 [(.str ((gd o2.2 0).s ++ ([0] : List UInt8)))]
 else none) fun _ => none) := by kernel_rfl
theorem q_spec_l3Bytes (a0 a1 : D) : e_spec_l3Bytes.F [a0, a1] = rn (
 if (a0.i == 1) then
 (e_spec_l1Split.F [a1, (.int 46)]).bind fun r2 =>
 (loopF (fun l3 =>
 if (decide ((gd l3 1).i < (r2.l.length : Int))) then
 if (inb (gd l3 1).i r2.l.length) then
 (e_spec_l1Int.F [(gd r2.l (gd l3 1).i.toNat)]).bind fun r5 =>
 (e_spec_l1In.F [r5, (.int 0), (.int 255)]).bind fun r6 =>
 if (!r6.b) then
 ou 1 []
 else
 (e_spec_l3Number.F [r5, (.int 1)]).bind fun r7 =>
 if (catOk (gd l3 0).s r7.s) then
 ou 0 [(.str ((gd l3 0).s ++ r7.s)), (.int (IntKind.wrap .i64 ((gd l3 1).i + 1)))]
 else none
 else none
 else
 ou 2 [(gd l3 0)]) [(D.str []), (.int 0)]).bind fun o3 =>
 sel2 o3.1 (ou 0 [(.pair (D.str []) (.pair (.bool false) .unit))]) fun n4 =>
 sel2 n4 (ou 0 [(.pair (gd o3.2 0) (.pair (.bool ((r2.l.length : Int) == 4)) .unit))]) fun _ => none
 else
 (if (a0.i == 2) then
 ou 0 [(.bool (a0.i == 2))]
 else
 ou 0 [(.bool (a0.i == 5))]).bind fun o2 =>
 sel2 o2.1 (if (gd o2.2 0).b then
 (e_spec_l3Target.F [a1]).bind fun r3 =>
 if (!r3.b) then
 ou 0 [(.pair (D.str []) (.pair (.bool false) .unit))]
 else
 (e_spec_l2Bytes.F [a1]).bind fun r4 =>
 ou 0 [(.pair r4 (.pair (.bool true) .unit))]
 else
 if (a0.i == 6) then
 (e_spec_l1Int.F [a1]).bind fun r3 =>
 (e_spec_l3Number.F [r3, (.int 4)]).bind fun r4 =>
 (e_spec_l1In.F [r3, (.int 0), (.int 4294967295)]).bind fun r5 =>
 ou 0 [(.pair r4 (.pair r5 .unit))]
 else
 if (a0.i == 15) then
 (e_spec_l1Split.F [a1, (.int 32)]).bind fun r3 =>
 (if ((r3.l.length : Int) != 2) then
 ou 0 [(.bool true)]
 else
 if (inb 0 r3.l.length) then
 (e_spec_l1Int.F [(gd r3.l 0)]).bind fun r4 =>
 (e_spec_l1In.F [r4, (.int 0), (.int 65535)]).bind fun r5 =>
 if (!r5.b) then
 ou 0 [(.bool true)]
 else
 if (inb 1 r3.l.length) then
 (e_spec_l3Target.F [(gd r3.l 1)]).bind fun r6 =>
 ou 0 [(.bool (!r6.b))]
 else none
 else none).bind fun o4 =>
 sel2 o4.1 (if (gd o4.2 0).b then
 ou 0 [(.pair (D.str []) (.pair (.bool false) .unit))]
 else
 if (inb 0 r3.l.length) then
 (e_spec_l1Int.F [(gd r3.l 0)]).bind fun r5 =>
 (e_spec_l3Number.F [r5, (.int 2)]).bind fun r6 =>
 if (inb 1 r3.l.length) then
 (e_spec_l2Bytes.F [(gd r3.l 1)]).bind fun r7 =>
 if (catOk r6.s r7.s) then
 ou 0 [(.pair (.str (r6.s ++ r7.s)) (.pair (.bool true) .unit))]
 else none
 else none
 else none) fun _ => none
 else
 if (a0.i == 16) then
 (loopF (fun l3 =>
 if (decide ((gd l3 0).i < (a1.s.length : Int))) then
 (if (inb (gd l3 0).i a1.s.length) then
 if (decide ((byteAt a1.s (gd l3 0).i.toNat : Int) < 32)) then
 ou 0 [(.bool true)]
 else
 ou 0 [(.bool (decide ((byteAt a1.s (gd l3 0).i.toNat : Int) > 126)))]
 else none).bind fun o4 =>
 sel2 o4.1 (if (gd o4.2 0).b then
 ou 1 [(D.str []), (.bool false)]
 else
 ou 0 [(.int (IntKind.wrap .i64 ((gd l3 0).i + 1)))]) fun _ => none
 else
 ou 2 []) [(.int 0)]).bind fun o3 =>
 sel2 o3.1 (ou 0 [(.pair (gd o3.2 0) (.pair (gd o3.2 1) .unit))]) fun n14 =>
 sel2 n14 (if (catOk (bytesStr ((.int (IntKind.wrap .u8 (a1.s.length : Int))) :: ([] : List D))) a1.s) then
 ou 0 [(.pair (.str ((bytesStr ((.int (IntKind.wrap .u8 (a1.s.length : Int))) :: ([] : List D))) ++ a1.s)) (.pair (.bool (decide ((a1.s.length : Int) ≤ 30))) .unit))]
 else none) fun _ => none
 else
 ou 0 [(.pair (D.str []) (.pair (.bool false) .unit))]) fun _ => none) := by kernel_rfl
theorem q_spec_GoodName (a0 : D) : e_spec_GoodName.F [a0] = rn (
 (e_spec_l1Labels.F [a0]).bind fun r1 =>
 ou 0 [(r1.fld 1)]) := by kernel_rfl
theorem q_spec_GoodRecord (a0 : D) : e_spec_GoodRecord.F [a0] = rn (
 (e_spec_l3Bytes.F [(a0.fld 1), (a0.fld 3)]).bind fun r1 =>
 (if (r1.fld 1).b then
 (e_spec_GoodName.F [(a0.fld 0)]).bind fun r2 =>
 if r2.b then
 (e_spec_l1In.F [(a0.fld 2), (.int 0), (.int 100000)]).bind fun r3 =>
 ou 0 [r3]
 else
 ou 0 [(.bool false)]
 else
 ou 0 [(.bool false)]).bind fun o2 =>
 sel2 o2.1 (ou 0 [(gd o2.2 0)]) fun _ => none) := by kernel_rfl
theorem q_spec_l1Compare (a0 a1 : D) : e_spec_l1Compare.F [a0, a1] = rn (
 (e_spec_l1Labels.F [a0]).bind fun r2 =>
 (e_spec_l1Labels.F [a1]).bind fun r3 =>
 (loopF (fun l4 =>
 (if (decide ((gd l4 0).i ≤ ((r2.fld 0).l.length : Int))) then
 ou 0 [(.bool (decide ((gd l4 0).i ≤ ((r3.fld 0).l.length : Int))))]
 else
 ou 0 [(.bool false)]).bind fun o5 =>
 sel2 o5.1 (if (gd o5.2 0).b then
 if (inb (IntKind.wrap .i64 (((r2.fld 0).l.length : Int) - (gd l4 0).i)) (r2.fld 0).l.length) then
 if (inb (IntKind.wrap .i64 (((r3.fld 0).l.length : Int) - (gd l4 0).i)) (r3.fld 0).l.length) then
 if (Op.bytesLess (gd (r2.fld 0).l (IntKind.wrap .i64 (((r2.fld 0).l.length : Int) - (gd l4 0).i)).toNat).s (gd (r3.fld 0).l (IntKind.wrap .i64 (((r3.fld 0).l.length : Int) - (gd l4 0).i)).toNat).s) then
 ou 1 [(.int (-1))]
 else
 if (!(Op.bytesLess (gd (r2.fld 0).l (IntKind.wrap .i64 (((r2.fld 0).l.length : Int) - (gd l4 0).i)).toNat).s (gd (r3.fld 0).l (IntKind.wrap .i64 (((r3.fld 0).l.length : Int) - (gd l4 0).i)).toNat).s || (gd (r2.fld 0).l (IntKind.wrap .i64 (((r2.fld 0).l.length : Int) - (gd l4 0).i)).toNat).s == (gd (r3.fld 0).l (IntKind.wrap .i64 (((r3.fld 0).l.length : Int) - (gd l4 0).i)).toNat).s)) then
 ou 1 [(.int 1)]
 else
 ou 0 [(.int (IntKind.wrap .i64 ((gd l4 0).i + 1)))]
 else none
 else none
 else
 ou 2 []) fun _ => none) [(.int 1)]).bind fun o4 =>
 sel2 o4.1 (ou 0 [(gd o4.2 0)]) fun n2 =>
 sel2 n2 (if (decide (((r2.fld 0).l.length : Int) < ((r3.fld 0).l.length : Int))) then
 ou 0 [(.int (-1))]
 else
 if (decide (((r2.fld 0).l.length : Int) > ((r3.fld 0).l.length : Int))) then
 ou 0 [(.int 1)]
 else
 ou 0 [(.int 0)]) fun _ => none) := by kernel_rfl
theorem q_spec_l3Less (a0 : D) : e_spec_l3Less.F [a0] = rn (
 if a0.b then
 ou 0 [(.int (-1))]
 else
 ou 0 [(.int 1)]) := by kernel_rfl
theorem q_spec_l3Compare (a0 a1 : D) : e_spec_l3Compare.F [a0, a1] = rn (
 (e_spec_l1Compare.F [(a0.fld 0), (a1.fld 0)]).bind fun r2 =>
 if (r2.i != 0) then
 ou 0 [r2]
 else
 (e_spec_l3Bytes.F [(a0.fld 1), (a0.fld 3)]).bind fun r3 =>
 (e_spec_l3Bytes.F [(a1.fld 1), (a1.fld 3)]).bind fun r4 =>
 if ((a0.fld 1).i != (a1.fld 1).i) then
 (e_spec_l3Less.F [(.bool (decide ((a0.fld 1).i < (a1.fld 1).i)))]).bind fun r5 =>
 ou 0 [r5]
 else
 if (!((r3.fld 0).s == (r4.fld 0).s)) then
 (e_spec_l3Less.F [(.bool (Op.bytesLess (r3.fld 0).s (r4.fld 0).s))]).bind fun r5 =>
 ou 0 [r5]
 else
 if ((a0.fld 2).i != (a1.fld 2).i) then
 (e_spec_l3Less.F [(.bool (decide ((a0.fld 2).i < (a1.fld 2).i)))]).bind fun r5 =>
 ou 0 [r5]
 else
 ou 0 [(.int 0)]) := by kernel_rfl
theorem q_spec_l6List (a0 : D) : e_spec_l6List.F [a0] = rn (
 (loopF (fun l1 =>
 if (decide ((gd l1 0).i < (a0.l.length : Int))) then
 if (inb (gd l1 0).i a0.l.length) then
 ((e_spec_GoodRecord.F [(gd a0.l (gd l1 0).i.toNat)]).bind fun r2 =>
 if (!r2.b) then
 ou 0 [(.bool true)]
 else
 if (decide ((gd l1 0).i > 0)) then
 if (inb (IntKind.wrap .i64 ((gd l1 0).i - 1)) a0.l.length) then
 (e_spec_l3Compare.F [(gd a0.l (IntKind.wrap .i64 ((gd l1 0).i - 1)).toNat), (gd a0.l (gd l1 0).i.toNat)]).bind fun r3 =>
 ou 0 [(.bool (decide (r3.i ≥ 0)))]
 else none
 else
 ou 0 [(.bool false)]).bind fun o2 =>
 sel2 o2.1 (if (gd o2.2 0).b then
 ou 1 []
 else
 ou 0 [(.int (IntKind.wrap .i64 ((gd l1 0).i + 1)))]) fun _ => none
 else none
 else
 ou 2 []) [(.int 0)]).bind fun o1 =>
 sel2 o1.1 (ou 0 [(.bool false)]) fun n2 =>
 sel2 n2 (ou 0 [(.bool (decide ((a0.l.length : Int) ≤ 40)))]) fun _ => none) := by kernel_rfl
theorem q_spec_l1Below (a0 a1 : D) : e_spec_l1Below.F [a0, a1] = rn (
 (if (a1.s == ([] : List UInt8)) then
 ou 0 [(.bool true)]
 else
 if (a0.s == a1.s) then
 ou 0 [(.bool true)]
 else
 if (decide ((IntKind.wrap .i64 ((a0.s.length : Int) - (a1.s.length : Int))) > 0)) then
 if (slOk (IntKind.wrap .i64 ((a0.s.length : Int) - (a1.s.length : Int))) (a0.s.length : Int) (a0.s.length : Int)) then
 if (((a0.s.take (a0.s.length : Int).toNat).drop (IntKind.wrap .i64 ((a0.s.length : Int) - (a1.s.length : Int))).toNat) == a1.s) then
 if (inb (IntKind.wrap .i64 ((IntKind.wrap .i64 ((a0.s.length : Int) - (a1.s.length : Int))) - 1)) a0.s.length) then
 ou 0 [(.bool ((byteAt a0.s (IntKind.wrap .i64 ((IntKind.wrap .i64 ((a0.s.length : Int) - (a1.s.length : Int))) - 1)).toNat : Int) == 46))]
 else none
 else
 ou 0 [(.bool false)]
 else none
 else
 ou 0 [(.bool false)]).bind fun o2 =>
 sel2 o2.1 (ou 0 [(gd o2.2 0)]) fun _ => none) := by kernel_rfl
theorem q_spec_l6Has (a0 a1 a2 : D) : e_spec_l6Has.F [a0, a1, a2] = rn (
 (loopF (fun l3 =>
 if (decide ((gd l3 0).i < (a0.l.length : Int))) then
 if (inb (gd l3 0).i a0.l.length) then
 (if (((gd a0.l (gd l3 0).i.toNat).fld 0).s == a1.s) then
 ou 0 [(.bool (((gd a0.l (gd l3 0).i.toNat).fld 1).i == a2.i))]
 else
 ou 0 [(.bool false)]).bind fun o4 =>
 sel2 o4.1 (if (gd o4.2 0).b then
 ou 1 [(.bool true)]
 else
 ou 0 [(.int (IntKind.wrap .i64 ((gd l3 0).i + 1)))]) fun _ => none
 else none
 else
 ou 2 []) [(.int 0)]).bind fun o3 =>
 sel2 o3.1 (ou 0 [(gd o3.2 0)]) fun n2 =>
 sel2 n2 (ou 0 [(.bool false)]) fun _ => none) := by kernel_rfl
theorem q_spec_l1Parent (a0 : D) : e_spec_l1Parent.F [a0] = rn (
 (loopF (fun l1 =>
 if (decide ((gd l1 0).i < (a0.s.length : Int))) then
 if (inb (gd l1 0).i a0.s.length) then
 if ((byteAt a0.s (gd l1 0).i.toNat : Int) == 46) then
 if (slOk (IntKind.wrap .i64 ((gd l1 0).i + 1)) (a0.s.length : Int) (a0.s.length : Int)) then
 ou 1 [(.str ((a0.s.take (a0.s.length : Int).toNat).drop (IntKind.wrap .i64 ((gd l1 0).i + 1)).toNat))]
 else none
 else
 ou 0 [(.int (IntKind.wrap .i64 ((gd l1 0).i + 1)))]
 else none
 else
 ou 2 []) [(.int 0)]).bind fun o1 =>
 sel2 o1.1 (ou 0 [(gd o1.2 0)]) fun n2 =>
 sel2 n2 (ou 0 [(D.str [])]) fun _ => none) := by kernel_rfl
theorem q_spec_l6Cut (a0 a1 a2 : D) : e_spec_l6Cut.F [a0, a1, a2] = rn (
 (loopF (fun l3 =>
 (if (!((gd l3 0).s == a0.s)) then
 (e_spec_l1Below.F [(gd l3 0), a0]).bind fun r6 =>
 ou 0 [r6]
 else
 ou 0 [(.bool false)]).bind fun o6 =>
 sel2 o6.1 (if (gd o6.2 0).b then
 ((e_spec_l6Has.F [a1, (gd l3 0), (.int 2)]).bind fun r7 =>
 if r7.b then
 ou 0 [(gd l3 0), (.bool true)]
 else
 ou 0 [(gd l3 1), (gd l3 2)]).bind fun o7 =>
 sel2 o7.1 (if ((gd l3 0).s == ([] : List UInt8)) then
 ou 1 [(gd o7.2 0), (gd o7.2 1)]
 else
 (e_spec_l1Parent.F [(gd l3 0)]).bind fun r9 =>
 ou 0 [r9, (gd o7.2 0), (gd o7.2 1)]) fun _ => none
 else
 ou 1 [(gd l3 1), (gd l3 2)]) fun _ => none) [a2, (D.str []), (.bool false)]).bind fun o3 =>
 sel2 o3.1 (ou 0 [(.pair (gd o3.2 0) (.pair (gd o3.2 1) .unit))]) fun _ => none) := by kernel_rfl
theorem q_spec_l6Rule (a0 a1 : D) : e_spec_l6Rule.F [a0, a1] = rn (
 (loopF (fun l2 =>
 if (decide ((gd l2 1).i < (a1.l.length : Int))) then
 (if (inb (gd l2 1).i a1.l.length) then
 (e_spec_l1Below.F [((gd a1.l (gd l2 1).i.toNat).fld 0), a0]).bind fun r4 =>
 if (!r4.b) then
 ou 1 [(.int 1)]
 else
 if (((gd a1.l (gd l2 1).i.toNat).fld 1).i == 6) then
 if (!(((gd a1.l (gd l2 1).i.toNat).fld 0).s == a0.s)) then
 ou 0 [(.int (IntKind.wrap .i64 ((IntKind.wrap .i64 ((gd l2 0).i + 1)) + 1)))]
 else
 ou 0 [(.int (IntKind.wrap .i64 ((gd l2 0).i + 1)))]
 else
 ou 0 [(gd l2 0)]
 else none).bind fun o4 =>
 sel2 o4.1 (ou 0 [(gd o4.2 0), (.int (IntKind.wrap .i64 ((gd l2 1).i + 1)))]) fun n8 =>
 sel2 n8 (ou 1 [(gd o4.2 0)]) fun _ => none
 else
 ou 2 [(gd l2 0)]) [(.int 0), (.int 0)]).bind fun o2 =>
 sel2 o2.1 (ou 0 [(gd o2.2 0)]) fun n2 =>
 sel2 n2 (if ((gd o2.2 0).i != 1) then
 ou 0 [(.int 2)]
 else
 (loopF (fun l3 =>
 if (decide ((gd l3 0).i < (a1.l.length : Int))) then
 if (inb (gd l3 0).i a1.l.length) then
 (if (decide ((gd l3 0).i > 0)) then
 if (inb (IntKind.wrap .i64 ((gd l3 0).i - 1)) a1.l.length) then
 if (((gd a1.l (IntKind.wrap .i64 ((gd l3 0).i - 1)).toNat).fld 0).s == ((gd a1.l (gd l3 0).i.toNat).fld 0).s) then
 if (((gd a1.l (IntKind.wrap .i64 ((gd l3 0).i - 1)).toNat).fld 1).i == ((gd a1.l (gd l3 0).i.toNat).fld 1).i) then
 if (((gd a1.l (IntKind.wrap .i64 ((gd l3 0).i - 1)).toNat).fld 2).i != ((gd a1.l (gd l3 0).i.toNat).fld 2).i) then
 ou 0 [(.bool true)]
 else
 ou 0 [(.bool (((gd a1.l (IntKind.wrap .i64 ((gd l3 0).i - 1)).toNat).fld 3).s == ((gd a1.l (gd l3 0).i.toNat).fld 3).s))]
 else
 ou 0 [(.bool false)]
 else
 ou 0 [(.bool false)]
 else none
 else
 ou 0 [(.bool false)]).bind fun o4 =>
 sel2 o4.1 (if (gd o4.2 0).b then
 ou 1 [(.int 3)]
 else
 ou 0 [(.int (IntKind.wrap .i64 ((gd l3 0).i + 1)))]) fun _ => none
 else none
 else
 ou 2 []) [(.int 0)]).bind fun o3 =>
 sel2 o3.1 (ou 0 [(gd o3.2 0)]) fun n6 =>
 sel2 n6 ((loopF (fun l3 =>
 if (decide ((gd l3 0).i < (a1.l.length : Int))) then
 if (inb (gd l3 0).i a1.l.length) then
 if (slOk 0 (gd l3 0).i (a1.l.length : Int)) then
 (loopF (fun l4 =>
 if (decide ((gd l4 0).i < (((a1.l.take (gd l3 0).i.toNat).drop 0).length : Int))) then
 if (inb (gd l4 0).i ((a1.l.take (gd l3 0).i.toNat).drop 0).length) then
 (if (((gd (D.lst ((a1.l.take (gd l3 0).i.toNat).drop 0)).l (gd l4 0).i.toNat).fld 0).s == ((gd a1.l (gd l3 0).i.toNat).fld 0).s) then
 if (((gd (D.lst ((a1.l.take (gd l3 0).i.toNat).drop 0)).l (gd l4 0).i.toNat).fld 1).i == 5) then
 ou 0 [(.bool true)]
 else
 ou 0 [(.bool (((gd a1.l (gd l3 0).i.toNat).fld 1).i == 5))]
 else
 ou 0 [(.bool false)]).bind fun o5 =>
 sel2 o5.1 (if (gd o5.2 0).b then
 ou 1 [(.int 4)]
 else
 ou 0 [(.int (IntKind.wrap .i64 ((gd l4 0).i + 1)))]) fun _ => none
 else none
 else
 ou 2 []) [(.int 0)]).bind fun o4 =>
 sel2 o4.1 (ou 1 [(gd o4.2 0)]) fun n14 =>
 sel2 n14 (ou 0 [(.int (IntKind.wrap .i64 ((gd l3 0).i + 1)))]) fun _ => none
 else none
 else none
 else
 ou 2 []) [(.int 0)]).bind fun o3 =>
 sel2 o3.1 (ou 0 [(gd o3.2 0)]) fun n8 =>
 sel2 n8 ((e_spec_l6Has.F [a1, a0, (.int 5)]).bind fun r3 =>
 if r3.b then
 ou 0 [(.int 5)]
 else
 (loopF (fun l4 =>
 if (decide ((gd l4 0).i < (a1.l.length : Int))) then
 if (inb (gd l4 0).i a1.l.length) then
 (e_spec_l6Cut.F [a0, a1, ((gd a1.l (gd l4 0).i.toNat).fld 0)]).bind fun r5 =>
 (if (r5.fld 1).b then
 if (((gd a1.l (gd l4 0).i.toNat).fld 1).i != 1) then
 if (((gd a1.l (gd l4 0).i.toNat).fld 1).i != 2) then
 ou 0 [(.bool true)]
 else
 ou 0 [(.bool (!(((gd a1.l (gd l4 0).i.toNat).fld 0).s == (r5.fld 0).s)))]
 else
 ou 0 [(.bool false)]
 else
 ou 0 [(.bool false)]).bind fun o6 =>
 sel2 o6.1 (if (gd o6.2 0).b then
 ou 1 [(.int 6)]
 else
 ou 0 [(.int (IntKind.wrap .i64 ((gd l4 0).i + 1)))]) fun _ => none
 else none
 else
 ou 2 []) [(.int 0)]).bind fun o4 =>
 sel2 o4.1 (ou 0 [(gd o4.2 0)]) fun n12 =>
 sel2 n12 (ou 0 [(.int 0)]) fun _ => none) fun _ => none) fun _ => none) fun _ => none) := by kernel_rfl
theorem q_spec_RuleOf (a0 a1 : D) : e_spec_RuleOf.F [a0, a1] = rn (
 ((e_spec_l6Apex.F [a0]).bind fun r2 =>
 if (!r2.b) then
 ou 0 [(.bool true)]
 else
 (e_spec_l6List.F [a1]).bind fun r3 =>
 ou 0 [(.bool (!r3.b))]).bind fun o2 =>
 sel2 o2.1 (if (gd o2.2 0).b then
 ou 0 [(.int 9)]
 else
 (e_spec_l6Rule.F [a0, a1]).bind fun r3 =>
 ou 0 [r3]) fun _ => none) := by kernel_rfl
theorem q_spec_l1Num (k : Nat) (a0 : D) : f_rec_spec_l1Num (k + 1) [a0] = rn (
 if (decide (a0.i < 10)) then
 ou 0 [(.str (bytesStr ((.int (IntKind.wrap .u8 (IntKind.wrap .i64 (48 + a0.i)))) :: ([] : List D))))]
 else
 if (10 != 0) then
 (f_rec_spec_l1Num k [(.int (IntKind.wrap .i64 (a0.i.tdiv 10)))]).bind fun r1 =>
 if (catOk r1.s (bytesStr ((.int (IntKind.wrap .u8 (IntKind.wrap .i64 (48 + (a0.i.tmod 10))))) :: ([] : List D)))) then
 ou 0 [(.str (r1.s ++ (bytesStr ((.int (IntKind.wrap .u8 (IntKind.wrap .i64 (48 + (a0.i.tmod 10))))) :: ([] : List D)))))]
 else none
 else none) := by kernel_rfl
theorem q_spec_l6Soa (a0 : D) : e_spec_l6Soa.F [a0] = rn (
 if (4294967296 != 0) then
 (e_spec_l1Num.F [(.int ((a0.fld 1).i.tmod 4294967296))]).bind fun r1 =>
 ou 0 [r1]
 else none) := by kernel_rfl
theorem q_spec_GoodZone (a0 : D) : e_spec_GoodZone.F [a0] = rn (
 ((e_spec_l1In.F [(a0.fld 1), (.int 0), (.int 1152921504606846976)]).bind fun r1 =>
 if (!r1.b) then
 ou 0 [(.bool true)]
 else
 (e_spec_RuleOf.F [(a0.fld 0), (a0.fld 2)]).bind fun r2 =>
 ou 0 [(.bool (r2.i != 0))]).bind fun o1 =>
 sel2 o1.1 (if (gd o1.2 0).b then
 ou 0 [(.bool false)]
 else
 (loopF (fun l2 =>
 if (decide ((gd l2 0).i < ((a0.fld 2).l.length : Int))) then
 if (inb (gd l2 0).i (a0.fld 2).l.length) then
 (if (((gd (a0.fld 2).l (gd l2 0).i.toNat).fld 1).i == 6) then
 (e_spec_l6Soa.F [a0]).bind fun r3 =>
 ou 0 [(.bool (!(((gd (a0.fld 2).l (gd l2 0).i.toNat).fld 3).s == r3.s)))]
 else
 ou 0 [(.bool false)]).bind fun o3 =>
 sel2 o3.1 (if (gd o3.2 0).b then
 ou 1 [(.bool false)]
 else
 ou 0 [(.int (IntKind.wrap .i64 ((gd l2 0).i + 1)))]) fun _ => none
 else none
 else
 ou 2 []) [(.int 0)]).bind fun o2 =>
 sel2 o2.1 (ou 0 [(gd o2.2 0)]) fun n6 =>
 sel2 n6 (ou 0 [(.bool true)]) fun _ => none) fun _ => none) := by kernel_rfl
theorem q_spec_GoodWorld (a0 : D) : e_spec_GoodWorld.F [a0] = rn (
 ((e_spec_l1In.F [(.int ((a0.fld 0).l.length : Int)), (.int 1), (.int 6)]).bind fun r1 =>
 if (!r1.b) then
 ou 0 [(.bool true)]
 else
 if (inb 0 (a0.fld 0).l.length) then
 ou 0 [(.bool (!(((gd (a0.fld 0).l 0).fld 0).s == ([] : List UInt8))))]
 else none).bind fun o1 =>
 sel2 o1.1 (if (gd o1.2 0).b then
 ou 0 [(.bool false)]
 else
 (loopF (fun l2 =>
 if (decide ((gd l2 0).i < ((a0.fld 0).l.length : Int))) then
 if (inb (gd l2 0).i (a0.fld 0).l.length) then
 ((e_spec_GoodZone.F [(gd (a0.fld 0).l (gd l2 0).i.toNat)]).bind fun r3 =>
 if (!r3.b) then
 ou 0 [(.bool true)]
 else
 if (decide ((gd l2 0).i > 0)) then
 if (inb (IntKind.wrap .i64 ((gd l2 0).i - 1)) (a0.fld 0).l.length) then
 (e_spec_l1Compare.F [((gd (a0.fld 0).l (IntKind.wrap .i64 ((gd l2 0).i - 1)).toNat).fld 0), ((gd (a0.fld 0).l (gd l2 0).i.toNat).fld 0)]).bind fun r4 =>
 ou 0 [(.bool (decide (r4.i ≥ 0)))]
 else none
 else
 ou 0 [(.bool false)]).bind fun o3 =>
 sel2 o3.1 (if (gd o3.2 0).b then
 ou 1 [(.bool false)]
 else
 ou 0 [(.int (IntKind.wrap .i64 ((gd l2 0).i + 1)))]) fun _ => none
 else none
 else
 ou 2 []) [(.int 0)]).bind fun o2 =>
 sel2 o2.1 (ou 0 [(gd o2.2 0)]) fun n6 =>
 sel2 n6 (ou 0 [(.bool true)]) fun _ => none) fun _ => none) := by kernel_rfl
theorem q_spec_l6Own (a0 : D) : e_spec_l6Own.F [a0] = rn (
 if (appOk 48 ([] : List D) (a0.fld 2).l) then
 ou 0 [(a0.setFld 2 (D.lst (([] : List D) ++ (a0.fld 2).l)))]
 else none) := by kernel_rfl
theorem q_spec_AddZone (a0 a1 : D) : e_spec_AddZone.F [a0, a1] = rn (
 ((e_spec_GoodWorld.F [a0]).bind fun r2 =>
 if (!r2.b) then
 ou 0 [(.bool true)]
 else
 (e_spec_GoodZone.F [a1]).bind fun r3 =>
 ou 0 [(.bool (!r3.b))]).bind fun o2 =>
 sel2 o2.1 (if (gd o2.2 0).b then
 ou 0 [(.pair (.pair (D.lst []) .unit) (.pair (.bool false) .unit))]
 else
 (loopF (fun l3 =>
 if (decide ((gd l3 2).i < ((a0.fld 0).l.length : Int))) then
 if (inb (gd l3 2).i (a0.fld 0).l.length) then
 ((e_spec_l1Compare.F [(a1.fld 0), ((gd (a0.fld 0).l (gd l3 2).i.toNat).fld 0)]).bind fun r6 =>
 if (r6.i == 0) then
 ou 1 [(.pair (D.lst []) .unit), (.bool false)]
 else
 (if (decide (r6.i < 0)) then
 ou 0 [(.bool (!(gd l3 1).b))]
 else
 ou 0 [(.bool false)]).bind fun o7 =>
 sel2 o7.1 (if (gd o7.2 0).b then
 (e_spec_l6Own.F [a1]).bind fun r8 =>
 if (appOk 48 ((gd l3 0).fld 0).l (r8 :: ([] : List D))) then
 ou 0 [((gd l3 0).setFld 0 (D.lst (((gd l3 0).fld 0).l ++ (r8 :: ([] : List D))))), (.bool true)]
 else none
 else
 ou 0 [(gd l3 0), (gd l3 1)]) fun _ => none).bind fun o6 =>
 sel2 o6.1 ((e_spec_l6Own.F [(gd (a0.fld 0).l (gd l3 2).i.toNat)]).bind fun r8 =>
 if (appOk 48 ((gd o6.2 0).fld 0).l (r8 :: ([] : List D))) then
 ou 0 [((gd o6.2 0).setFld 0 (D.lst (((gd o6.2 0).fld 0).l ++ (r8 :: ([] : List D))))), (gd o6.2 1), (.int (IntKind.wrap .i64 ((gd l3 2).i + 1)))]
 else none) fun n12 =>
 sel2 n12 (ou 1 [(gd o6.2 0), (gd o6.2 1)]) fun _ => none
 else none
 else
 ou 2 [(gd l3 0), (gd l3 1)]) [(.pair (D.lst []) .unit), (.bool false), (.int 0)]).bind fun o3 =>
 sel2 o3.1 (ou 0 [(.pair (gd o3.2 0) (.pair (gd o3.2 1) .unit))]) fun n6 =>
 sel2 n6 ((if (!(gd o3.2 1).b) then
 (e_spec_l6Own.F [a1]).bind fun r5 =>
 if (appOk 48 ((gd o3.2 0).fld 0).l (r5 :: ([] : List D))) then
 ou 0 [((gd o3.2 0).setFld 0 (D.lst (((gd o3.2 0).fld 0).l ++ (r5 :: ([] : List D)))))]
 else none
 else
 ou 0 [(gd o3.2 0)]).bind fun o5 =>
 sel2 o5.1 ((e_spec_GoodWorld.F [(gd o5.2 0)]).bind fun r6 =>
 if (!r6.b) then
 ou 0 [(.pair (.pair (D.lst []) .unit) (.pair (.bool false) .unit))]
 else
 ou 0 [(.pair (gd o5.2 0) (.pair (.bool true) .unit))]) fun _ => none) fun _ => none) fun _ => none) := by kernel_rfl
theorem q_impl_within (a0 a1 a2 : D) : e_impl_within.F [a0, a1, a2] = rn (
 (if (decide (a0.i ≥ a1.i)) then
 ou 0 [(.bool (decide (a0.i ≤ a2.i)))]
 else
 ou 0 [(.bool false)]).bind fun o3 =>
 sel2 o3.1 (ou 0 [(gd o3.2 0)]) fun _ => none) := by kernel_rfl
theorem q_impl_isCounter (a0 : D) : e_impl_isCounter.F [a0] = rn (
 (e_impl_within.F [a0, (.int 0), (.int 1152921504606846976)]).bind fun r1 =>
 ou 0 [r1]) := by kernel_rfl
theorem q_impl_labelsOf (a0 : D) : e_impl_labelsOf.F [a0] = rn (
 if (a0.s == ([] : List UInt8)) then
 ou 0 [(D.lst [])]
 else
 (e_strings_Split.F [a0, (D.str [46])]).bind fun r1 =>
 ou 0 [r1]) := by kernel_rfl
theorem q_impl_isLabel (a0 : D) : e_impl_isLabel.F [a0] = rn (
 if (a0.s == ([42] : List UInt8)) then
 ou 0 [(.bool true)]
 else
 ((e_impl_within.F [(.int (a0.s.length : Int)), (.int 1), (.int 20)]).bind fun r1 =>
 if r1.b then
 (e_strings_Trim.F [a0, (D.str [97, 98, 99, 100, 101, 102, 103, 104, 105, 106, 107, 108, 109, 110, 111, 112, 113, 114, 115, 116, 117, 118, 119, 120, 121, 122, 48, 49, 50, 51, 52, 53, 54, 55, 56, 57, 45, 95])]).bind fun r2 =>
 ou 0 [(.bool (r2.s == ([] : List UInt8)))]
 else
 ou 0 [(.bool false)]).bind fun o1 =>
 sel2 o1.1 (ou 0 [(gd o1.2 0)]) fun _ => none) := by kernel_rfl
theorem q_impl_GoodName_1 (a0 : D) : e_impl_GoodName_1.F [a0] = rn (
 (e_impl_isLabel.F [a0]).bind fun r1 =>
 ou 0 [(.bool (!r1.b))]) := by kernel_rfl
theorem q_slices_IndexFunc_string_string__impl_GoodName_1 (a0 a1 : D) : e_slices_IndexFunc_string_string__impl_GoodName_1.F [a0, a1] = rn (
 (loopF (fun l2 =>
 if (decide ((gd l2 0).i < (a0.l.length : Int))) then
 if (inb (gd l2 0).i a0.l.length) then
 (e_impl_GoodName_1.F [(gd a0.l (gd l2 0).i.toNat)]).bind fun r3 =>
 if r3.b then
 ou 1 [(gd l2 0)]
 else
 ou 0 [(.int (IntKind.wrap .i64 ((gd l2 0).i + 1)))]
 else none
 else
 ou 2 []) [(.int 0)]).bind fun o2 =>
 sel2 o2.1 (ou 0 [(gd o2.2 0)]) fun n2 =>
 sel2 n2 (ou 0 [(.int (-1))]) fun _ => none) := by kernel_rfl
theorem q_slices_ContainsFunc_string_string__impl_GoodName_1 (a0 a1 : D) : e_slices_ContainsFunc_string_string__impl_GoodName_1.F [a0, a1] = rn (
 (e_slices_IndexFunc_string_string__impl_GoodName_1.F [a0, a1]).bind fun r2 =>
 ou 0 [(.bool (decide (r2.i ≥ 0)))]) := by kernel_rfl
theorem q_impl_GoodName (a0 : D) : e_impl_GoodName.F [a0] = rn (
 if (decide ((a0.s.length : Int) > 60)) then
 ou 0 [(.bool false)]
 else
 (e_impl_labelsOf.F [a0]).bind fun r1 =>
 (if (decide ((r1.l.length : Int) ≤ 8)) then
 (e_slices_ContainsFunc_string_string__impl_GoodName_1.F [r1, .unit]).bind fun r2 =>
 ou 0 [(.bool (!r2.b))]
 else
 ou 0 [(.bool false)]).bind fun o2 =>
 sel2 o2.1 (ou 0 [(gd o2.2 0)]) fun _ => none) := by kernel_rfl
theorem q_impl_isApex (a0 : D) : e_impl_isApex.F [a0] = rn (
 ((e_impl_GoodName.F [a0]).bind fun r1 =>
 if r1.b then
 (e_strings_Contains.F [a0, (D.str [42])]).bind fun r2 =>
 ou 0 [(.bool (!r2.b))]
 else
 ou 0 [(.bool false)]).bind fun o1 =>
 sel2 o1.1 (ou 0 [(gd o1.2 0)]) fun _ => none) := by kernel_rfl
theorem q_impl_numberIn (a0 a1 : D) : e_impl_numberIn.F [a0, a1] = rn (
 (e_strconv_Atoi.F [a0]).bind fun r2 =>
 (if (!(r2.fld 1).b) then
 (e_impl_within.F [(r2.fld 0), (.int 0), a1]).bind fun r3 =>
 if r3.b then
 (e_strconv_Itoa.F [(r2.fld 0)]).bind fun r4 =>
 ou 0 [(r2.fld 0), (.bool (r4.s == a0.s))]
 else
 ou 0 [(r2.fld 0), (.bool false)]
 else
 ou 0 [(r2.fld 0), (.bool false)]).bind fun o3 =>
 sel2 o3.1 (ou 0 [(.pair (gd o3.2 0) (.pair (gd o3.2 1) .unit))]) fun _ => none) := by kernel_rfl
theorem q_impl_big (a0 a1 : D) : e_impl_big.F [a0, a1] = rn (
 (loopF (fun l2 =>
 if (decide ((gd l2 1).i ≥ 0)) then
 if (decide (0 ≤ (IntKind.wrap .i64 (8 * (gd l2 1).i)))) then
 if (appOk 1 (gd l2 0).l ((.int (IntKind.wrap .u8 (a0.i.fdiv (2 ^ min (IntKind.wrap .i64 (8 * (gd l2 1).i)).toNat (IntKind.bits .i64))))) :: ([] : List D))) then
 ou 0 [(D.lst ((gd l2 0).l ++ ((.int (IntKind.wrap .u8 (a0.i.fdiv (2 ^ min (IntKind.wrap .i64 (8 * (gd l2 1).i)).toNat (IntKind.bits .i64))))) :: ([] : List D)))), (.int (IntKind.wrap .i64 ((gd l2 1).i - 1)))]
 else none
 else none
 else
 ou 1 [(gd l2 0)]) [(D.lst []), (.int (IntKind.wrap .i64 (a1.i - 1)))]).bind fun o2 =>
 sel2 o2.1 (ou 0 [(.str (bytesStr (gd o2.2 0).l))]) fun _ => none) := by kernel_rfl
theorem q_impl_isTarget (a0 : D) : e_impl_isTarget.F [a0] = rn (
 (if (!(a0.s == ([] : List UInt8))) then
 (e_impl_GoodName.F [a0]).bind fun r1 =>
 if r1.b then
 (e_strings_Contains.F [a0, (D.str [42])]).bind fun r2 =>
 ou 0 [(.bool (!r2.b))]
 else
 ou 0 [(.bool false)]
 else
 ou 0 [(.bool false)]).bind fun o1 =>
 sel2 o1.1 (ou 0 [(gd o1.2 0)]) fun _ => none) := by kernel_rfl
theorem q_impl_labelBytes (a0 : D) : e_impl_labelBytes.F [a0] = rn (
 (e_impl_labelsOf.F [a0]).bind fun r1 =>
 (loopF (fun l2 =>
 if (decide ((gd l2 1).i < (r1.l.length : Int))) then
 if (inb (gd l2 1).i r1.l.length) then
 if (catOk (bytesStr ((.int (IntKind.wrap .u8 ((gd r1.l (gd l2 1).i.toNat).s.length : Int))) :: ([] : List D))) (gd r1.l (gd l2 1).i.toNat).s) then
 if (catOk (gd l2 0).s ((bytesStr ((.int (IntKind.wrap .u8 ((gd r1.l (gd l2 1).i.toNat).s.length : Int))) :: ([] : List D))) ++ (gd r1.l (gd l2 1).i.toNat).s)) then
 ou 0 [(.str ((gd l2 0).s ++ ((bytesStr ((.int (IntKind.wrap .u8 ((gd r1.l (gd l2 1).i.toNat).s.length : Int))) :: ([] : List D))) ++ (gd r1.l (gd l2 1).i.toNat).s))), (.int (IntKind.wrap .i64 ((gd l2 1).i + 1)))]
 else none
 else none
 else none
 else
 ou 1 [(gd l2 0)]) [(D.str []), (.int 0)]).bind fun o2 =>
 sel2 o2.1 (ou 0 [(gd o2.2 0)]) fun _ => none) := by kernel_rfl
theorem q_impl_DataBytes_1 (a0 : D) : e_impl_DataBytes_1.F [a0] = rn (
 (if (decide (a0.i < 32)) then
 ou 0 [(.bool true)]
 else
 ou 0 [(.bool (decide (a0.i > 126)))]).bind fun o1 =>
 sel2 o1.1 (ou 0 [(gd o1.2 0)]) fun _ => none) := by kernel_rfl
theorem q_slices_IndexFunc_byte_byte__impl_DataBytes_1 (a0 a1 : D) : e_slices_IndexFunc_byte_byte__impl_DataBytes_1.F [a0, a1] = rn (
 (loopF (fun l2 =>
 if (decide ((gd l2 0).i < (a0.l.length : Int))) then
 if (inb (gd l2 0).i a0.l.length) then
 (e_impl_DataBytes_1.F [(gd a0.l (gd l2 0).i.toNat)]).bind fun r3 =>
 if r3.b then
 ou 1 [(gd l2 0)]
 else
 ou 0 [(.int (IntKind.wrap .i64 ((gd l2 0).i + 1)))]
 else none
 else
 ou 2 []) [(.int 0)]).bind fun o2 =>
 sel2 o2.1 (ou 0 [(gd o2.2 0)]) fun n2 =>
 sel2 n2 (ou 0 [(.int (-1))]) fun _ => none) := by kernel_rfl
theorem q_slices_ContainsFunc_byte_byte__impl_DataBytes_1 (a0 a1 : D) : e_slices_ContainsFunc_byte_byte__impl_DataBytes_1.F [a0, a1] = rn (
 (e_slices_IndexFunc_byte_byte__impl_DataBytes_1.F [a0, a1]).bind fun r2 =>
 ou 0 [(.bool (decide (r2.i ≥ 0)))]) := by kernel_rfl
theorem q_impl_DataBytes (a0 a1 : D) : e_impl_DataBytes.F [a0, a1] = rn (
 if (a0.i == 1) then
 (e_strings_Split.F [a1, (D.str [46])]).bind fun r2 =>
 (loopF (fun l3 =>
 if (decide ((gd l3 1).i < (r2.l.length : Int))) then
 if (inb (gd l3 1).i r2.l.length) then
 (e_impl_numberIn.F [(gd r2.l (gd l3 1).i.toNat), (.int 255)]).bind fun r5 =>
 (if (!(r5.fld 1).b) then
 ou 0 [(.bool true)]
 else
 ou 0 [(.bool ((r2.l.length : Int) != 4))]).bind fun o6 =>
 sel2 o6.1 (if (gd o6.2 0).b then
 ou 1 []
 else
 (e_impl_big.F [(r5.fld 0), (.int 1)]).bind fun r7 =>
 if (catOk (gd l3 0).s r7.s) then
 ou 0 [(.str ((gd l3 0).s ++ r7.s)), (.int (IntKind.wrap .i64 ((gd l3 1).i + 1)))]
 else none) fun _ => none
 else none
 else
 ou 2 [(gd l3 0)]) [(D.str []), (.int 0)]).bind fun o3 =>
 sel2 o3.1 (ou 0 [(.pair (D.str []) (.pair (.bool false) .unit))]) fun n4 =>
 sel2 n4 (ou 0 [(.pair (gd o3.2 0) (.pair (.bool true) .unit))]) fun _ => none
 else
 (if (a0.i == 2) then
 ou 0 [(.bool (a0.i == 2))]
 else
 ou 0 [(.bool (a0.i == 5))]).bind fun o2 =>
 sel2 o2.1 (if (gd o2.2 0).b then
 (e_impl_isTarget.F [a1]).bind fun r3 =>
 if (!r3.b) then
 ou 0 [(.pair (D.str []) (.pair (.bool false) .unit))]
 else
 (e_impl_labelBytes.F [a1]).bind fun r4 =>
 if (catOk r4.s ([0] : List UInt8)) then
 ou 0 [(.pair (.str (r4.s ++ ([0] : List UInt8))) (.pair (.bool true) .unit))]
 else none
 else
 if (a0.i == 6) then
 (e_impl_numberIn.F [a1, (.int 4294967295)]).bind fun r3 =>
 if (!(r3.fld 1).b) then
 ou 0 [(.pair (D.str []) (.pair (.bool false) .unit))]
 else
 (e_impl_big.F [(r3.fld 0), (.int 4)]).bind fun r4 =>
 ou 0 [(.pair r4 (.pair (.bool true) .unit))]
 else
 if (a0.i == 15) then
 (e_strings_Cut.F [a1, (D.str [32])]).bind fun r3 =>
 (e_impl_numberIn.F [(r3.fld 0), (.int 65535)]).bind fun r4 =>
 (if (!(r4.fld 1).b) then
 ou 0 [(.bool true)]
 else
 (e_impl_isTarget.F [(r3.fld 1)]).bind fun r5 =>
 ou 0 [(.bool (!r5.b))]).bind fun o5 =>
 sel2 o5.1 (if (gd o5.2 0).b then
 ou 0 [(.pair (D.str []) (.pair (.bool false) .unit))]
 else
 (e_impl_big.F [(r4.fld 0), (.int 2)]).bind fun r6 =>
 (e_impl_labelBytes.F [(r3.fld 1)]).bind fun r7 =>
 if (catOk r6.s r7.s) then
 if (catOk (r6.s ++ r7.s) ([0] : List UInt8)) then
 ou 0 [(.pair (.str ((r6.s ++ r7.s) ++ ([0] : List UInt8))) (.pair (.bool true) .unit))]
 else none
 else none) fun _ => none
 else
 if (a0.i == 16) then
 (if (decide ((a1.s.length : Int) > 30)) then
 ou 0 [(.bool true)]
 else
 (e_slices_ContainsFunc_byte_byte__impl_DataBytes_1.F [(D.lst (a1.s.map fun c => D.int c.toNat)), .unit]).bind fun r3 =>
 ou 0 [r3]).bind fun o3 =>
 sel2 o3.1 (if (gd o3.2 0).b then
 ou 0 [(.pair (D.str []) (.pair (.bool false) .unit))]
 else
 (e_impl_big.F [(.int (a1.s.length : Int)), (.int 1)]).bind fun r4 =>
 if (catOk r4.s a1.s) then
 ou 0 [(.pair (.str (r4.s ++ a1.s)) (.pair (.bool true) .unit))]
 else none) fun _ => none
 else
 ou 0 [(.pair (D.str []) (.pair (.bool false) .unit))]) fun _ => none) := by kernel_rfl
theorem q_impl_GoodRecord (a0 : D) : e_impl_GoodRecord.F [a0] = rn (
 ((e_impl_GoodName.F [(a0.fld 0)]).bind fun r1 =>
 if (!r1.b) then
 ou 0 [(.bool true)]
 else
 (e_impl_within.F [(a0.fld 2), (.int 0), (.int 100000)]).bind fun r2 =>
 if (!r2.b) then
 ou 0 [(.bool true)]
 else
 ou 0 [(.bool (decide (((a0.fld 3).s.length : Int) > 100)))]).bind fun o1 =>
 sel2 o1.1 (if (gd o1.2 0).b then
 ou 0 [(.bool false)]
 else
 (e_impl_DataBytes.F [(a0.fld 1), (a0.fld 3)]).bind fun r2 =>
 ou 0 [(r2.fld 1)]) fun _ => none) := by kernel_rfl
theorem q_slices_Reverse_string_string (a0 : D) : e_slices_Reverse_string_string.F [a0] = rn (
 (loopF (fun l1 =>
 if (decide ((gd l1 1).i < (gd l1 2).i)) then
 if (inb (gd l1 2).i (gd l1 0).l.length) then
 if (inb (gd l1 1).i (gd l1 0).l.length) then
 ou 0 [(D.lst (((gd l1 0).l.set (gd l1 1).i.toNat (gd (gd l1 0).l (gd l1 2).i.toNat)).set (gd l1 2).i.toNat (gd (gd l1 0).l (gd l1 1).i.toNat))), (.int (IntKind.wrap .i64 ((gd l1 1).i + 1))), (.int (IntKind.wrap .i64 ((gd l1 2).i - 1)))]
 else none
 else none
 else
 ou 1 [(gd l1 0)]) [a0, (.int 0), (.int (IntKind.wrap .i64 ((a0.l.length : Int) - 1)))]).bind fun o1 =>
 sel2 o1.1 (ou 0 [(.pair .unit (.pair (gd o1.2 0) .unit))]) fun _ => none) := by kernel_rfl
theorem q_cmp_isNaN_string (a0 : D) : e_cmp_isNaN_string.F [a0] = rn (
 ou 0 [(.bool (!(a0.s == a0.s)))]) := by kernel_rfl
theorem q_cmp_Compare_string (a0 a1 : D) : e_cmp_Compare_string.F [a0, a1] = rn (
 (e_cmp_isNaN_string.F [a0]).bind fun r2 =>
 (e_cmp_isNaN_string.F [a1]).bind fun r3 =>
 if r2.b then
 if r3.b then
 ou 0 [(.int 0)]
 else
 ou 0 [(.int (-1))]
 else
 if r3.b then
 ou 0 [(.int 1)]
 else
 if (Op.bytesLess a0.s a1.s) then
 ou 0 [(.int (-1))]
 else
 if (!(Op.bytesLess a0.s a1.s || a0.s == a1.s)) then
 ou 0 [(.int 1)]
 else
 ou 0 [(.int 0)]) := by kernel_rfl
theorem q_slices_Compare_string_string (a0 a1 : D) : e_slices_Compare_string_string.F [a0, a1] = rn (
 (loopF (fun l2 =>
 if (decide ((gd l2 0).i < (a0.l.length : Int))) then
 if (inb (gd l2 0).i a0.l.length) then
 if (decide ((gd l2 0).i ≥ (a1.l.length : Int))) then
 ou 1 [(.int 1)]
 else
 if (inb (gd l2 0).i a1.l.length) then
 (e_cmp_Compare_string.F [(gd a0.l (gd l2 0).i.toNat), (gd a1.l (gd l2 0).i.toNat)]).bind fun r3 =>
 if (r3.i != 0) then
 ou 1 [r3]
 else
 ou 0 [(.int (IntKind.wrap .i64 ((gd l2 0).i + 1)))]
 else none
 else none
 else
 ou 2 []) [(.int 0)]).bind fun o2 =>
 sel2 o2.1 (ou 0 [(gd o2.2 0)]) fun n2 =>
 sel2 n2 (if (decide ((a0.l.length : Int) < (a1.l.length : Int))) then
 ou 0 [(.int (-1))]
 else
 ou 0 [(.int 0)]) fun _ => none) := by kernel_rfl
theorem q_impl_compareNames (a0 a1 : D) : e_impl_compareNames.F [a0, a1] = rn (
 (e_impl_labelsOf.F [a0]).bind fun r2 =>
 (e_impl_labelsOf.F [a1]).bind fun r3 =>
 (e_slices_Reverse_string_string.F [r2]).bind fun r4 =>
 (e_slices_Reverse_string_string.F [r3]).bind fun r5 =>
 (e_slices_Compare_string_string.F [(r4.fld 1), (r5.fld 1)]).bind fun r6 =>
 ou 0 [r6]) := by kernel_rfl
theorem q_cmp_isNaN_int (a0 : D) : e_cmp_isNaN_int.F [a0] = rn (
 ou 0 [(.bool (a0.i != a0.i))]) := by kernel_rfl
theorem q_cmp_Compare_int (a0 a1 : D) : e_cmp_Compare_int.F [a0, a1] = rn (
 (e_cmp_isNaN_int.F [a0]).bind fun r2 =>
 (e_cmp_isNaN_int.F [a1]).bind fun r3 =>
 if r2.b then
 if r3.b then
 ou 0 [(.int 0)]
 else
 ou 0 [(.int (-1))]
 else
 if r3.b then
 ou 0 [(.int 1)]
 else
 if (decide (a0.i < a1.i)) then
 ou 0 [(.int (-1))]
 else
 if (decide (a0.i > a1.i)) then
 ou 0 [(.int 1)]
 else
 ou 0 [(.int 0)]) := by kernel_rfl
theorem q_cmp_Or_int (a0 : D) : e_cmp_Or_int.F [a0] = rn (
 (loopF (fun l1 =>
 if (decide ((gd l1 0).i < (a0.l.length : Int))) then
 if (inb (gd l1 0).i a0.l.length) then
 if ((gd a0.l (gd l1 0).i.toNat).i != 0) then
 ou 1 [(gd a0.l (gd l1 0).i.toNat)]
 else
 ou 0 [(.int (IntKind.wrap .i64 ((gd l1 0).i + 1)))]
 else none
 else
 ou 2 []) [(.int 0)]).bind fun o1 =>
 sel2 o1.1 (ou 0 [(gd o1.2 0)]) fun n2 =>
 sel2 n2 (ou 0 [(.int 0)]) fun _ => none) := by kernel_rfl
theorem q_impl_compareKeys (a0 a1 : D) : e_impl_compareKeys.F [a0, a1] = rn (
 (e_impl_compareNames.F [(a0.fld 0), (a1.fld 0)]).bind fun r2 =>
 (e_cmp_Compare_int.F [(a0.fld 1), (a1.fld 1)]).bind fun r3 =>
 (e_cmp_Or_int.F [(D.lst (r2 :: (r3 :: ([] : List D))))]).bind fun r4 =>
 ou 0 [r4]) := by kernel_rfl
theorem q_impl_dataBytes (a0 a1 : D) : e_impl_dataBytes.F [a0, a1] = rn (
 (e_impl_DataBytes.F [a0, a1]).bind fun r2 =>
 if (!(r2.fld 1).b) then
 ou 0 [(D.str [])]
 else
 ou 0 [(r2.fld 0)]) := by kernel_rfl
theorem q_impl_compareRecords (a0 a1 : D) : e_impl_compareRecords.F [a0, a1] = rn (
 (e_impl_compareKeys.F [a0, a1]).bind fun r2 =>
 (e_impl_dataBytes.F [(a0.fld 1), (a0.fld 3)]).bind fun r3 =>
 (e_impl_dataBytes.F [(a1.fld 1), (a1.fld 3)]).bind fun r4 =>
 (e_strings_Compare.F [r3, r4]).bind fun r5 =>
 (e_cmp_Compare_int.F [(a0.fld 2), (a1.fld 2)]).bind fun r6 =>
 (e_cmp_Or_int.F [(D.lst (r2 :: (r5 :: (r6 :: ([] : List D)))))]).bind fun r7 =>
 ou 0 [r7]) := by kernel_rfl
theorem q_impl_areRising (a0 : D) : e_impl_areRising.F [a0] = rn (
 (loopF (fun l1 =>
 if (decide ((gd l1 0).i < (a0.l.length : Int))) then
 if (inb (gd l1 0).i a0.l.length) then
 ((e_impl_GoodRecord.F [(gd a0.l (gd l1 0).i.toNat)]).bind fun r2 =>
 if (!r2.b) then
 ou 0 [(.bool true)]
 else
 if (decide ((gd l1 0).i > 0)) then
 if (inb (IntKind.wrap .i64 ((gd l1 0).i - 1)) a0.l.length) then
 (e_impl_compareRecords.F [(gd a0.l (IntKind.wrap .i64 ((gd l1 0).i - 1)).toNat), (gd a0.l (gd l1 0).i.toNat)]).bind fun r3 =>
 ou 0 [(.bool (decide (r3.i ≥ 0)))]
 else none
 else
 ou 0 [(.bool false)]).bind fun o2 =>
 sel2 o2.1 (if (gd o2.2 0).b then
 ou 1 []
 else
 ou 0 [(.int (IntKind.wrap .i64 ((gd l1 0).i + 1)))]) fun _ => none
 else none
 else
 ou 2 []) [(.int 0)]).bind fun o1 =>
 sel2 o1.1 (ou 0 [(.bool false)]) fun n2 =>
 sel2 n2 (ou 0 [(.bool true)]) fun _ => none) := by kernel_rfl
theorem q_impl_isWhole (a0 a1 : D) : e_impl_isWhole.F [a0, a1] = rn (
 ((e_impl_isApex.F [a0]).bind fun r2 =>
 if r2.b then
 if (decide ((a1.l.length : Int) ≤ 40)) then
 (e_impl_areRising.F [a1]).bind fun r3 =>
 ou 0 [r3]
 else
 ou 0 [(.bool false)]
 else
 ou 0 [(.bool false)]).bind fun o2 =>
 sel2 o2.1 (ou 0 [(gd o2.2 0)]) fun _ => none) := by kernel_rfl
theorem q_internal_stringslite_HasSuffix (a0 a1 : D) : e_internal_stringslite_HasSuffix.F [a0, a1] = rn (
 (if (decide ((a0.s.length : Int) ≥ (a1.s.length : Int))) then
 if (slOk (IntKind.wrap .i64 ((a0.s.length : Int) - (a1.s.length : Int))) (a0.s.length : Int) (a0.s.length : Int)) then
 ou 0 [(.bool (((a0.s.take (a0.s.length : Int).toNat).drop (IntKind.wrap .i64 ((a0.s.length : Int) - (a1.s.length : Int))).toNat) == a1.s))]
 else none
 else
 ou 0 [(.bool false)]).bind fun o2 =>
 sel2 o2.1 (ou 0 [(gd o2.2 0)]) fun _ => none) := by kernel_rfl
theorem q_strings_HasSuffix (a0 a1 : D) : e_strings_HasSuffix.F [a0, a1] = rn (
 (e_internal_stringslite_HasSuffix.F [a0, a1]).bind fun r2 =>
 ou 0 [r2]) := by kernel_rfl
theorem q_impl_isBelow (a0 a1 : D) : e_impl_isBelow.F [a0, a1] = rn (
 (if (a0.s == a1.s) then
 ou 0 [(.bool true)]
 else
 if (a1.s == ([] : List UInt8)) then
 ou 0 [(.bool true)]
 else
 if (catOk ([46] : List UInt8) a1.s) then
 (e_strings_HasSuffix.F [a0, (.str (([46] : List UInt8) ++ a1.s))]).bind fun r2 =>
 ou 0 [r2]
 else none).bind fun o2 =>
 sel2 o2.1 (ou 0 [(gd o2.2 0)]) fun _ => none) := by kernel_rfl
theorem q_impl_at (a0 a1 a2 : D) : e_impl_at.F [a0, a1, a2] = rn (
 (loopF (fun l3 =>
 if (decide ((gd l3 1).i < (a0.l.length : Int))) then
 (if (inb (gd l3 1).i a0.l.length) then
 (if (((gd a0.l (gd l3 1).i.toNat).fld 0).s == a1.s) then
 if (a2.i == 0) then
 ou 0 [(.bool true)]
 else
 ou 0 [(.bool (((gd a0.l (gd l3 1).i.toNat).fld 1).i == a2.i))]
 else
 ou 0 [(.bool false)]).bind fun o5 =>
 sel2 o5.1 (if (gd o5.2 0).b then
 if (appOk 48 (gd l3 0).l ((gd a0.l (gd l3 1).i.toNat) :: ([] : List D))) then
 ou 0 [(D.lst ((gd l3 0).l ++ ((gd a0.l (gd l3 1).i.toNat) :: ([] : List D))))]
 else none
 else
 ou 0 [(gd l3 0)]) fun _ => none
 else none).bind fun o5 =>
 sel2 o5.1 (ou 0 [(gd o5.2 0), (.int (IntKind.wrap .i64 ((gd l3 1).i + 1)))]) fun _ => none
 else
 ou 1 [(gd l3 0)]) [(D.lst []), (.int 0)]).bind fun o3 =>
 sel2 o3.1 (ou 0 [(gd o3.2 0)]) fun _ => none) := by kernel_rfl
theorem q_impl_breaks_1 (a0 a1 : D) : e_impl_breaks_1.F [a0, a1] = rn (
 (if ((a0.fld 2).i != (a1.fld 2).i) then
 ou 0 [(.bool true)]
 else
 if ((a0.fld 3).s == (a1.fld 3).s) then
 ou 0 [(.bool (!(D.beq a0 a1)))]
 else
 ou 0 [(.bool false)]).bind fun o2 =>
 sel2 o2.1 (ou 0 [(gd o2.2 0)]) fun _ => none) := by kernel_rfl
theorem q_slices_IndexFunc_impl_Record_impl_Record__impl_breaks_1 (a0 a1 : D) : e_slices_IndexFunc_impl_Record_impl_Record__impl_breaks_1.F [a0, a1] = rn (
 (loopF (fun l2 =>
 if (decide ((gd l2 0).i < (a0.l.length : Int))) then
 if (inb (gd l2 0).i a0.l.length) then
 (e_impl_breaks_1.F [(gd a0.l (gd l2 0).i.toNat), (a1.fld 0)]).bind fun r3 =>
 if r3.b then
 ou 1 [(gd l2 0)]
 else
 ou 0 [(.int (IntKind.wrap .i64 ((gd l2 0).i + 1)))]
 else none
 else
 ou 2 []) [(.int 0)]).bind fun o2 =>
 sel2 o2.1 (ou 0 [(gd o2.2 0)]) fun n2 =>
 sel2 n2 (ou 0 [(.int (-1))]) fun _ => none) := by kernel_rfl
theorem q_slices_ContainsFunc_impl_Record_impl_Record__impl_breaks_1 (a0 a1 : D) : e_slices_ContainsFunc_impl_Record_impl_Record__impl_breaks_1.F [a0, a1] = rn (
 (e_slices_IndexFunc_impl_Record_impl_Record__impl_breaks_1.F [a0, a1]).bind fun r2 =>
 ou 0 [(.bool (decide (r2.i ≥ 0)))]) := by kernel_rfl
theorem q_impl_breaks_2 (a0 a1 a2 : D) : e_impl_breaks_2.F [a0, a1, a2] = rn (
 (if ((a0.fld 1).i == 2) then
 if (!((a0.fld 0).s == a1.s)) then
 (e_impl_isBelow.F [(a2.fld 0), (a0.fld 0)]).bind fun r3 =>
 ou 0 [r3]
 else
 ou 0 [(.bool false)]
 else
 ou 0 [(.bool false)]).bind fun o3 =>
 sel2 o3.1 ((if (gd o3.2 0).b then
 if ((a2.fld 1).i != 1) then
 if ((a2.fld 1).i == 2) then
 ou 0 [(.bool (!((a2.fld 0).s == (a0.fld 0).s)))]
 else
 ou 0 [(.bool (!false))]
 else
 ou 0 [(.bool false)]
 else
 ou 0 [(.bool false)]).bind fun o4 =>
 sel2 o4.1 (ou 0 [(gd o4.2 0)]) fun _ => none) fun _ => none) := by kernel_rfl
theorem q_slices_IndexFunc_impl_Record_impl_Record__impl_breaks_2 (a0 a1 : D) : e_slices_IndexFunc_impl_Record_impl_Record__impl_breaks_2.F [a0, a1] = rn (
 (loopF (fun l2 =>
 if (decide ((gd l2 0).i < (a0.l.length : Int))) then
 if (inb (gd l2 0).i a0.l.length) then
 (e_impl_breaks_2.F [(gd a0.l (gd l2 0).i.toNat), (a1.fld 0), (a1.fld 1)]).bind fun r3 =>
 if r3.b then
 ou 1 [(gd l2 0)]
 else
 ou 0 [(.int (IntKind.wrap .i64 ((gd l2 0).i + 1)))]
 else none
 else
 ou 2 []) [(.int 0)]).bind fun o2 =>
 sel2 o2.1 (ou 0 [(gd o2.2 0)]) fun n2 =>
 sel2 n2 (ou 0 [(.int (-1))]) fun _ => none) := by kernel_rfl
theorem q_slices_ContainsFunc_impl_Record_impl_Record__impl_breaks_2 (a0 a1 : D) : e_slices_ContainsFunc_impl_Record_impl_Record__impl_breaks_2.F [a0, a1] = rn (
 (e_slices_IndexFunc_impl_Record_impl_Record__impl_breaks_2.F [a0, a1]).bind fun r2 =>
 ou 0 [(.bool (decide (r2.i ≥ 0)))]) := by kernel_rfl
theorem q_impl_breaks (a0 a1 a2 a3 : D) : e_impl_breaks.F [a0, a1, a2, a3] = rn (
 if (a3.i == 1) then
 (e_impl_isBelow.F [(a2.fld 0), a0]).bind fun r4 =>
 ou 0 [(.bool (!r4.b))]
 else
 if (a3.i == 2) then
 (if ((a2.fld 1).i == 6) then
 ou 0 [(.bool (!((a2.fld 0).s == a0.s)))]
 else
 ou 0 [(.bool false)]).bind fun o4 =>
 sel2 o4.1 (ou 0 [(gd o4.2 0)]) fun _ => none
 else
 if (a3.i == 3) then
 (e_impl_at.F [a1, (a2.fld 0), (a2.fld 1)]).bind fun r4 =>
 (e_slices_ContainsFunc_impl_Record_impl_Record__impl_breaks_1.F [r4, (.pair a2 .unit)]).bind fun r5 =>
 ou 0 [r5]
 else
 if (a3.i == 4) then
 (if ((a2.fld 1).i == 5) then
 (e_impl_at.F [a1, (a2.fld 0), (.int 0)]).bind fun r4 =>
 ou 0 [(.bool (decide ((r4.l.length : Int) > 1)))]
 else
 ou 0 [(.bool false)]).bind fun o4 =>
 sel2 o4.1 (ou 0 [(gd o4.2 0)]) fun _ => none
 else
 if (a3.i == 5) then
 (if ((a2.fld 1).i == 5) then
 ou 0 [(.bool ((a2.fld 0).s == a0.s))]
 else
 ou 0 [(.bool false)]).bind fun o4 =>
 sel2 o4.1 (ou 0 [(gd o4.2 0)]) fun _ => none
 else
 (e_slices_ContainsFunc_impl_Record_impl_Record__impl_breaks_2.F [a1, (.pair a0 (.pair a2 .unit))]).bind fun r4 =>
 ou 0 [r4]) := by kernel_rfl
theorem q_impl_RuleOf_1 (a0 a1 a2 a3 : D) : e_impl_RuleOf_1.F [a0, a1, a2, a3] = rn (
 (e_impl_breaks.F [a1, a2, a0, a3]).bind fun r4 =>
 ou 0 [r4]) := by kernel_rfl
theorem q_slices_IndexFunc_impl_Record_impl_Record__impl_RuleOf_1 (a0 a1 : D) : e_slices_IndexFunc_impl_Record_impl_Record__impl_RuleOf_1.F [a0, a1] = rn (
 (loopF (fun l2 =>
 if (decide ((gd l2 0).i < (a0.l.length : Int))) then
 if (inb (gd l2 0).i a0.l.length) then
 (e_impl_RuleOf_1.F [(gd a0.l (gd l2 0).i.toNat), (a1.fld 0), (a1.fld 1), (a1.fld 2)]).bind fun r3 =>
 if r3.b then
 ou 1 [(gd l2 0)]
 else
 ou 0 [(.int (IntKind.wrap .i64 ((gd l2 0).i + 1)))]
 else none
 else
 ou 2 []) [(.int 0)]).bind fun o2 =>
 sel2 o2.1 (ou 0 [(gd o2.2 0)]) fun n2 =>
 sel2 n2 (ou 0 [(.int (-1))]) fun _ => none) := by kernel_rfl
theorem q_slices_ContainsFunc_impl_Record_impl_Record__impl_RuleOf_1 (a0 a1 : D) : e_slices_ContainsFunc_impl_Record_impl_Record__impl_RuleOf_1.F [a0, a1] = rn (
 (e_slices_IndexFunc_impl_Record_impl_Record__impl_RuleOf_1.F [a0, a1]).bind fun r2 =>
 ou 0 [(.bool (decide (r2.i ≥ 0)))]) := by kernel_rfl
theorem q_impl_RuleOf (a0 a1 : D) : e_impl_RuleOf.F [a0, a1] = rn (
 (e_impl_isWhole.F [a0, a1]).bind fun r2 =>
 if (!r2.b) then
 ou 0 [(.int 9)]
 else
 (loopF (fun l3 =>
 if (decide ((gd l3 0).i ≤ 6)) then
 ((e_slices_ContainsFunc_impl_Record_impl_Record__impl_RuleOf_1.F [a1, (.pair a0 (.pair a1 (.pair (gd l3 0) .unit)))]).bind fun r4 =>
 if r4.b then
 ou 0 [(.bool true)]
 else
 if ((gd l3 0).i == 2) then
 (e_impl_at.F [a1, a0, (.int 6)]).bind fun r5 =>
 ou 0 [(.bool ((r5.l.length : Int) != 1))]
 else
 ou 0 [(.bool false)]).bind fun o4 =>
 sel2 o4.1 (if (gd o4.2 0).b then
 ou 1 [(gd l3 0)]
 else
 ou 0 [(.int (IntKind.wrap .i64 ((gd l3 0).i + 1)))]) fun _ => none
 else
 ou 2 []) [(.int 1)]).bind fun o3 =>
 sel2 o3.1 (ou 0 [(gd o3.2 0)]) fun n4 =>
 sel2 n4 (ou 0 [(.int 0)]) fun _ => none) := by kernel_rfl
theorem q_impl_serialText (a0 : D) : e_impl_serialText.F [a0] = rn (
 if (4294967296 != 0) then
 (e_strconv_Itoa.F [(.int (a0.i.tmod 4294967296))]).bind fun r1 =>
 ou 0 [r1]
 else none) := by kernel_rfl
theorem q_impl_GoodZone (a0 : D) : e_impl_GoodZone.F [a0] = rn (
 ((e_impl_isCounter.F [(a0.fld 1)]).bind fun r1 =>
 if r1.b then
 (e_impl_RuleOf.F [(a0.fld 0), (a0.fld 2)]).bind fun r2 =>
 if (r2.i == 0) then
 (e_impl_at.F [(a0.fld 2), (a0.fld 0), (.int 6)]).bind fun r3 =>
 if (inb 0 r3.l.length) then
 (e_impl_serialText.F [(a0.fld 1)]).bind fun r4 =>
 ou 0 [(.bool (((gd r3.l 0).fld 3).s == r4.s))]
 else none
 else
 ou 0 [(.bool false)]
 else
 ou 0 [(.bool false)]).bind fun o1 =>
 sel2 o1.1 (ou 0 [(gd o1.2 0)]) fun _ => none) := by kernel_rfl
theorem q_impl_GoodWorld (a0 : D) : e_impl_GoodWorld.F [a0] = rn (
 ((e_impl_within.F [(.int ((a0.fld 0).l.length : Int)), (.int 1), (.int 6)]).bind fun r1 =>
 if (!r1.b) then
 ou 0 [(.bool true)]
 else
 if (inb 0 (a0.fld 0).l.length) then
 ou 0 [(.bool (!(((gd (a0.fld 0).l 0).fld 0).s == ([] : List UInt8))))]
 else none).bind fun o1 =>
 sel2 o1.1 (if (gd o1.2 0).b then
 ou 0 [(.bool false)]
 else
 (loopF (fun l2 =>
 if (decide ((gd l2 0).i < ((a0.fld 0).l.length : Int))) then
 if (inb (gd l2 0).i (a0.fld 0).l.length) then
 ((e_impl_GoodZone.F [(gd (a0.fld 0).l (gd l2 0).i.toNat)]).bind fun r3 =>
 if (!r3.b) then
 ou 0 [(.bool true)]
 else
 if (decide ((gd l2 0).i > 0)) then
 if (inb (IntKind.wrap .i64 ((gd l2 0).i - 1)) (a0.fld 0).l.length) then
 (e_impl_compareNames.F [((gd (a0.fld 0).l (IntKind.wrap .i64 ((gd l2 0).i - 1)).toNat).fld 0), ((gd (a0.fld 0).l (gd l2 0).i.toNat).fld 0)]).bind fun r4 =>
 ou 0 [(.bool (decide (r4.i ≥ 0)))]
 else none
 else
 ou 0 [(.bool false)]).bind fun o3 =>
 sel2 o3.1 (if (gd o3.2 0).b then
 ou 1 [(.bool false)]
 else
 ou 0 [(.int (IntKind.wrap .i64 ((gd l2 0).i + 1)))]) fun _ => none
 else none
 else
 ou 2 []) [(.int 0)]).bind fun o2 =>
 sel2 o2.1 (ou 0 [(gd o2.2 0)]) fun n6 =>
 sel2 n6 (ou 0 [(.bool true)]) fun _ => none) fun _ => none) := by kernel_rfl
theorem q_impl_World_find_1 (a0 a1 : D) : e_impl_World_find_1.F [a0, a1] = rn (
 (e_impl_compareNames.F [(a0.fld 0), a1]).bind fun r2 =>
 ou 0 [r2]) := by kernel_rfl
theorem q_slices_BinarySearchFunc_impl_Zone_impl_Zone_string__impl_World_find_1 (a0 a1 a2 : D) : e_slices_BinarySearchFunc_impl_Zone_impl_Zone_string__impl_World_find_1.F [a0, a1, a2] = rn (
 (loopF (fun l3 =>
 if (decide ((gd l3 0).i < (gd l3 1).i)) then
 if (decide (0 ≤ 1)) then
 if (inb (IntKind.wrap .i64 ((IntKind.wrap .u64 (IntKind.wrap .i64 ((gd l3 0).i + (gd l3 1).i))).fdiv (2 ^ min 1 (IntKind.bits .u64)))) a0.l.length) then
 (e_impl_World_find_1.F [(gd a0.l (IntKind.wrap .i64 ((IntKind.wrap .u64 (IntKind.wrap .i64 ((gd l3 0).i + (gd l3 1).i))).fdiv (2 ^ min 1 (IntKind.bits .u64)))).toNat), a1]).bind fun r5 =>
 if (decide (r5.i < 0)) then
 ou 0 [(.int (IntKind.wrap .i64 ((IntKind.wrap .i64 ((IntKind.wrap .u64 (IntKind.wrap .i64 ((gd l3 0).i + (gd l3 1).i))).fdiv (2 ^ min 1 (IntKind.bits .u64)))) + 1))), (gd l3 1)]
 else
 ou 0 [(gd l3 0), (.int (IntKind.wrap .i64 ((IntKind.wrap .u64 (IntKind.wrap .i64 ((gd l3 0).i + (gd l3 1).i))).fdiv (2 ^ min 1 (IntKind.bits .u64)))))]
 else none
 else none
 else
 ou 1 [(gd l3 0)]) [(.int 0), (.int (a0.l.length : Int))]).bind fun o3 =>
 sel2 o3.1 ((if (decide ((gd o3.2 0).i < (a0.l.length : Int))) then
 if (inb (gd o3.2 0).i a0.l.length) then
 (e_impl_World_find_1.F [(gd a0.l (gd o3.2 0).i.toNat), a1]).bind fun r4 =>
 ou 0 [(gd o3.2 0), (.bool (r4.i == 0))]
 else none
 else
 ou 0 [(gd o3.2 0), (.bool false)]).bind fun o4 =>
 sel2 o4.1 (ou 0 [(.pair (gd o4.2 0) (.pair (gd o4.2 1) .unit))]) fun _ => none) fun _ => none) := by kernel_rfl
theorem q_impl_World_find (a0 a1 : D) : e_impl_World_find.F [a0, a1] = rn (
 (e_slices_BinarySearchFunc_impl_Zone_impl_Zone_string__impl_World_find_1.F [(a0.fld 0), a1, .unit]).bind fun r2 =>
 ou 0 [(.pair (r2.fld 0) (.pair (r2.fld 1) .unit))]) := by kernel_rfl
theorem q_slices_Clone_impl_Zone_impl_Zone (a0 : D) : e_slices_Clone_impl_Zone_impl_Zone.F [a0] = rn (
 two a0.l.isEmpty
 (ou 0 [(D.lst [])])
 (if (appOk 48 ([] : List D) a0.l) then
 ou 0 [(D.lst (([] : List D) ++ a0.l))]
 else none)) := by kernel_rfl
theorem q_slices_Clone_impl_Record_impl_Record (a0 : D) : e_slices_Clone_impl_Record_impl_Record.F [a0] = rn (
 two a0.l.isEmpty
 (ou 0 [(D.lst [])])
 (if (appOk 48 ([] : List D) a0.l) then
 ou 0 [(D.lst (([] : List D) ++ a0.l))]
 else none)) := by kernel_rfl
theorem q_impl_ownZone (a0 : D) : e_impl_ownZone.F [a0] = rn (
 (e_slices_Clone_impl_Record_impl_Record.F [(a0.fld 2)]).bind fun r1 =>
 ou 0 [(a0.setFld 2 r1)]) := by kernel_rfl
theorem q_impl_AddZone (a0 a1 : D) : e_impl_AddZone.F [a0, a1] = rn (
 ((e_impl_GoodWorld.F [a0]).bind fun r2 =>
 if (!r2.b) then
 ou 0 [(.bool true)]
 else
 (e_impl_GoodZone.F [a1]).bind fun r3 =>
 ou 0 [(.bool (!r3.b))]).bind fun o2 =>
 sel2 o2.1 (if (gd o2.2 0).b then
 ou 0 [(.pair (.pair (D.lst []) .unit) (.pair (.bool false) .unit))]
 else
 (e_impl_World_find.F [a0, (a1.fld 0)]).bind fun r3 =>
 if (r3.fld 1).b then
 ou 0 [(.pair (.pair (D.lst []) .unit) (.pair (.bool false) .unit))]
 else
 (e_slices_Clone_impl_Zone_impl_Zone.F [(a0.fld 0)]).bind fun r4 =>
 (e_slices_Insert_impl_Zone_impl_Zone.F [r4, (r3.fld 0), (D.lst (a1 :: ([] : List D)))]).bind fun r5 =>
 (loopF (fun l6 =>
 if (decide ((gd l6 1).i < (r5.l.length : Int))) then
 if (inb (gd l6 1).i r5.l.length) then
 (e_impl_ownZone.F [(gd r5.l (gd l6 1).i.toNat)]).bind fun r8 =>
 if (appOk 48 ((gd l6 0).fld 0).l (r8 :: ([] : List D))) then
 ou 0 [((gd l6 0).setFld 0 (D.lst (((gd l6 0).fld 0).l ++ (r8 :: ([] : List D))))), (.int (IntKind.wrap .i64 ((gd l6 1).i + 1)))]
 else none
 else none
 else
 ou 1 [(gd l6 0)]) [(.pair (D.lst []) .unit), (.int 0)]).bind fun o6 =>
 sel2 o6.1 ((e_impl_GoodWorld.F [(gd o6.2 0)]).bind fun r7 =>
 if (!r7.b) then
 ou 0 [(.pair (.pair (D.lst []) .unit) (.pair (.bool false) .unit))]
 else
 ou 0 [(.pair (gd o6.2 0) (.pair (.bool true) .unit))]) fun _ => none) fun _ => none) := by kernel_rfl
theorem q_laws_eqRecord (a0 a1 : D) : e_laws_eqRecord.F [a0, a1] = rn (
 if (!((a0.fld 0).s == (a1.fld 0).s)) then
 ou 0 [(.bool false)]
 else
 if ((a0.fld 1).i != (a1.fld 1).i) then
 ou 0 [(.bool false)]
 else
 if ((a0.fld 2).i != (a1.fld 2).i) then
 ou 0 [(.bool false)]
 else
 if (!((a0.fld 3).s == (a1.fld 3).s)) then
 ou 0 [(.bool false)]
 else
 ou 0 [(.bool true)]) := by kernel_rfl
theorem q_laws_eqRecordS (a0 a1 : D) : e_laws_eqRecordS.F [a0, a1] = rn (
 if ((a0.l.length : Int) != (a1.l.length : Int)) then
 ou 0 [(.bool false)]
 else
 (loopF (fun l2 =>
 if (decide ((gd l2 0).i < (a0.l.length : Int))) then
 if (inb (gd l2 0).i a0.l.length) then
 if (inb (gd l2 0).i a1.l.length) then
 (e_laws_eqRecord.F [(gd a0.l (gd l2 0).i.toNat), (gd a1.l (gd l2 0).i.toNat)]).bind fun r3 =>
 if (!r3.b) then
 ou 1 []
 else
 ou 0 [(.int (IntKind.wrap .i64 ((gd l2 0).i + 1)))]
 else none
 else none
 else
 ou 2 []) [(.int 0)]).bind fun o2 =>
 sel2 o2.1 (ou 0 [(.bool false)]) fun n4 =>
 sel2 n4 (ou 0 [(.bool true)]) fun _ => none) := by kernel_rfl
theorem q_laws_eqZone (a0 a1 : D) : e_laws_eqZone.F [a0, a1] = rn (
 if (!((a0.fld 0).s == (a1.fld 0).s)) then
 ou 0 [(.bool false)]
 else
 if ((a0.fld 1).i != (a1.fld 1).i) then
 ou 0 [(.bool false)]
 else
 (e_laws_eqRecordS.F [(a0.fld 2), (a1.fld 2)]).bind fun r2 =>
 if (!r2.b) then
 ou 0 [(.bool false)]
 else
 ou 0 [(.bool true)]) := by kernel_rfl
theorem q_laws_eqZoneS (a0 a1 : D) : e_laws_eqZoneS.F [a0, a1] = rn (
 if ((a0.l.length : Int) != (a1.l.length : Int)) then
 ou 0 [(.bool false)]
 else
 (loopF (fun l2 =>
 if (decide ((gd l2 0).i < (a0.l.length : Int))) then
 if (inb (gd l2 0).i a0.l.length) then
 if (inb (gd l2 0).i a1.l.length) then
 (e_laws_eqZone.F [(gd a0.l (gd l2 0).i.toNat), (gd a1.l (gd l2 0).i.toNat)]).bind fun r3 =>
 if (!r3.b) then
 ou 1 []
 else
 ou 0 [(.int (IntKind.wrap .i64 ((gd l2 0).i + 1)))]
 else none
 else none
 else
 ou 2 []) [(.int 0)]).bind fun o2 =>
 sel2 o2.1 (ou 0 [(.bool false)]) fun n4 =>
 sel2 n4 (ou 0 [(.bool true)]) fun _ => none) := by kernel_rfl
theorem q_laws_eqWorld (a0 a1 : D) : e_laws_eqWorld.F [a0, a1] = rn (
 (e_laws_eqZoneS.F [(a0.fld 0), (a1.fld 0)]).bind fun r2 =>
 if (!r2.b) then
 ou 0 [(.bool false)]
 else
 ou 0 [(.bool true)]) := by kernel_rfl
theorem q_laws_markText (a0 : D) : e_laws_markText.F [a0] = rn (
 if (decide (a0.i ≤ 0)) then
 ou 0 [(D.str [109, 48])]
 else
 (loopF (fun l1 =>
 if (decide ((gd l1 0).i > 0)) then
 if (10 != 0) then
 if (catOk (bytesStr ((.int (IntKind.wrap .u8 (IntKind.wrap .i64 (48 + ((gd l1 0).i.tmod 10))))) :: ([] : List D))) (gd l1 1).s) then
 ou 0 [(.int (IntKind.wrap .i64 ((gd l1 0).i.tdiv 10))), (.str ((bytesStr ((.int (IntKind.wrap .u8 (IntKind.wrap .i64 (48 + ((gd l1 0).i.tmod 10))))) :: ([] : List D))) ++ (gd l1 1).s))]
 else none
 else none
 else
 ou 1 [(gd l1 1)]) [a0, (D.str [])]).bind fun o1 =>
 sel2 o1.1 (if (catOk ([109] : List UInt8) (gd o1.2 0).s) then
 ou 0 [(.str (([109] : List UInt8) ++ (gd o1.2 0).s))]
 else none) fun _ => none) := by kernel_rfl
theorem q_laws_markRecordS (a0 a1 : D) : e_laws_markRecordS.F [a0, a1] = rn (
 (loopF (fun l2 =>
 if (decide ((gd l2 2).i < ((gd l2 0).l.length : Int))) then
 (e_laws_markText.F [(gd l2 1)]).bind fun r5 =>
 if (inb (gd l2 2).i (gd l2 0).l.length) then
 (e_laws_markText.F [(.int (IntKind.wrap .i64 ((IntKind.wrap .i64 ((IntKind.wrap .i64 ((gd l2 1).i + 1)) + 1)) + 1)))]).bind fun r6 =>
 ou 0 [(D.lst (upd (upd (upd (upd (gd l2 0).l (gd l2 2).i.toNat 0 r5) (gd l2 2).i.toNat 1 (.int (IntKind.wrap .i64 ((gd l2 1).i + 1)))) (gd l2 2).i.toNat 2 (.int (IntKind.wrap .i64 ((IntKind.wrap .i64 ((gd l2 1).i + 1)) + 1)))) (gd l2 2).i.toNat 3 r6)), (.int (IntKind.wrap .i64 ((IntKind.wrap .i64 ((IntKind.wrap .i64 ((IntKind.wrap .i64 ((gd l2 1).i + 1)) + 1)) + 1)) + 1))), (.int (IntKind.wrap .i64 ((gd l2 2).i + 1)))]
 else none
 else
 ou 1 [(gd l2 0), (gd l2 1)]) [a0, a1, (.int 0)]).bind fun o2 =>
 sel2 o2.1 (ou 0 [(.pair (gd o2.2 1) (.pair (gd o2.2 0) .unit))]) fun _ => none) := by kernel_rfl
theorem q_laws_markZoneS (a0 a1 : D) : e_laws_markZoneS.F [a0, a1] = rn (
 (loopF (fun l2 =>
 if (decide ((gd l2 2).i < ((gd l2 0).l.length : Int))) then
 (e_laws_markText.F [(gd l2 1)]).bind fun r5 =>
 if (inb (gd l2 2).i (gd l2 0).l.length) then
 (e_laws_markRecordS.F [((gd (D.lst (upd (upd (gd l2 0).l (gd l2 2).i.toNat 0 r5) (gd l2 2).i.toNat 1 (.int (IntKind.wrap .i64 ((gd l2 1).i + 1))))).l (gd l2 2).i.toNat).fld 2), (.int (IntKind.wrap .i64 ((IntKind.wrap .i64 ((gd l2 1).i + 1)) + 1)))]).bind fun r6 =>
 ou 0 [(D.lst (upd (upd (upd (gd l2 0).l (gd l2 2).i.toNat 0 r5) (gd l2 2).i.toNat 1 (.int (IntKind.wrap .i64 ((gd l2 1).i + 1)))) (gd l2 2).i.toNat 2 (r6.fld 1))), (r6.fld 0), (.int (IntKind.wrap .i64 ((gd l2 2).i + 1)))]
 else none
 else
 ou 1 [(gd l2 0), (gd l2 1)]) [a0, a1, (.int 0)]).bind fun o2 =>
 sel2 o2.1 (ou 0 [(.pair (gd o2.2 1) (.pair (gd o2.2 0) .unit))]) fun _ => none) := by kernel_rfl
theorem q_laws_markWorld (a0 a1 : D) : e_laws_markWorld.F [a0, a1] = rn (
 (e_laws_markZoneS.F [(a0.fld 0), a1]).bind fun r2 =>
 ou 0 [(.pair (r2.fld 0) (.pair (D.mix (.pair (.lst true (.pair .str (.pair (.int .i64) (.pair (.lst true (.pair .str (.pair (.int .i64) (.pair (.int .i64) (.pair .str .unit))))) .unit)))) .unit) a0 (a0.setFld 0 (r2.fld 1))) .unit))]) := by kernel_rfl
theorem q_laws_markZone (a0 a1 : D) : e_laws_markZone.F [a0, a1] = rn (
 (e_laws_markRecordS.F [(a0.fld 2), a1]).bind fun r2 =>
 ou 0 [(.pair (r2.fld 0) (.pair (D.mix (.pair .str (.pair (.int .i64) (.pair (.lst true (.pair .str (.pair (.int .i64) (.pair (.int .i64) (.pair .str .unit))))) .unit))) a0 (a0.setFld 2 (r2.fld 1))) .unit))]) := by kernel_rfl
theorem q_laws_heldRecordS (a0 a1 : D) : e_laws_heldRecordS.F [a0, a1] = rn (
 (loopF (fun l2 =>
 if (decide ((gd l2 1).i < (a0.l.length : Int))) then
 if (inb (gd l2 1).i a0.l.length) then
 (e_laws_markText.F [(gd l2 0)]).bind fun r4 =>
 if (!(((gd a0.l (gd l2 1).i.toNat).fld 0).s == r4.s)) then
 ou 1 [(.int (-1))]
 else
 if (((gd a0.l (gd l2 1).i.toNat).fld 1).i != (IntKind.wrap .i64 ((gd l2 0).i + 1))) then
 ou 1 [(.int (-1))]
 else
 if (((gd a0.l (gd l2 1).i.toNat).fld 2).i != (IntKind.wrap .i64 ((IntKind.wrap .i64 ((gd l2 0).i + 1)) + 1))) then
 ou 1 [(.int (-1))]
 else
 (e_laws_markText.F [(.int (IntKind.wrap .i64 ((IntKind.wrap .i64 ((IntKind.wrap .i64 ((gd l2 0).i + 1)) + 1)) + 1)))]).bind fun r5 =>
 if (!(((gd a0.l (gd l2 1).i.toNat).fld 3).s == r5.s)) then
 ou 1 [(.int (-1))]
 else
 ou 0 [(.int (IntKind.wrap .i64 ((IntKind.wrap .i64 ((IntKind.wrap .i64 ((IntKind.wrap .i64 ((gd l2 0).i + 1)) + 1)) + 1)) + 1))), (.int (IntKind.wrap .i64 ((gd l2 1).i + 1)))]
 else none
 else
 ou 2 [(gd l2 0)]) [a1, (.int 0)]).bind fun o2 =>
 sel2 o2.1 (ou 0 [(gd o2.2 0)]) fun n2 =>
 sel2 n2 (ou 0 [(gd o2.2 0)]) fun _ => none) := by kernel_rfl
theorem q_laws_heldZoneS (a0 a1 : D) : e_laws_heldZoneS.F [a0, a1] = rn (
 (loopF (fun l2 =>
 if (decide ((gd l2 1).i < (a0.l.length : Int))) then
 if (inb (gd l2 1).i a0.l.length) then
 (e_laws_markText.F [(gd l2 0)]).bind fun r4 =>
 if (!(((gd a0.l (gd l2 1).i.toNat).fld 0).s == r4.s)) then
 ou 1 [(.int (-1))]
 else
 if (((gd a0.l (gd l2 1).i.toNat).fld 1).i != (IntKind.wrap .i64 ((gd l2 0).i + 1))) then
 ou 1 [(.int (-1))]
 else
 (e_laws_heldRecordS.F [((gd a0.l (gd l2 1).i.toNat).fld 2), (.int (IntKind.wrap .i64 ((IntKind.wrap .i64 ((gd l2 0).i + 1)) + 1)))]).bind fun r5 =>
 if (decide (r5.i < 0)) then
 ou 1 [(.int (-1))]
 else
 ou 0 [r5, (.int (IntKind.wrap .i64 ((gd l2 1).i + 1)))]
 else none
 else
 ou 2 [(gd l2 0)]) [a1, (.int 0)]).bind fun o2 =>
 sel2 o2.1 (ou 0 [(gd o2.2 0)]) fun n2 =>
 sel2 n2 (ou 0 [(gd o2.2 0)]) fun _ => none) := by kernel_rfl
theorem q_laws_heldWorld (a0 a1 : D) : e_laws_heldWorld.F [a0, a1] = rn (
 (e_laws_heldZoneS.F [(a0.fld 0), a1]).bind fun r2 =>
 if (decide (r2.i < 0)) then
 ou 0 [(.int (-1))]
 else
 ou 0 [r2]) := by kernel_rfl
theorem q_laws_FnExactAddZone (a0 a1 : D) : e_laws_FnExactAddZone.F [a0, a1] = rn (
 (e_laws_szWorld.F [a0, (.int 1048576)]).bind fun r2 =>
 if (decide (r2.i < 0)) then
 ou 0 [(.bool true)]
 else
 (e_laws_szZone.F [a1, r2]).bind fun r3 =>
 if (decide (r3.i < 0)) then
 ou 0 [(.bool true)]
 else
 (e_laws_toWorld.F [a0]).bind fun r4 =>
 (e_laws_toZone.F [a1]).bind fun r5 =>
 (e_spec_AddZone.F [r4, r5]).bind fun r6 =>
 (e_laws_toWorld.F [a0]).bind fun r7 =>
 (e_laws_toZone.F [a1]).bind fun r8 =>
 (e_impl_AddZone.F [r7, r8]).bind fun r9 =>
 ((e_laws_eqWorld.F [(r9.fld 0), (r6.fld 0)]).bind fun r10 =>
 if (!r10.b) then
 ou 0 [(.bool true)]
 else
 ou 0 [(.bool (!((r9.fld 1).b == (r6.fld 1).b)))]).bind fun o10 =>
 sel2 o10.1 (if (gd o10.2 0).b then
 ou 0 [(.bool false)]
 else
 (e_laws_toWorld.F [a0]).bind fun r11 =>
 (e_laws_eqWorld.F [r7, r11]).bind fun r12 =>
 if (!r12.b) then
 ou 0 [(.bool false)]
 else
 (e_laws_toZone.F [a1]).bind fun r13 =>
 (e_laws_eqZone.F [r8, r13]).bind fun r14 =>
 if (!r14.b) then
 ou 0 [(.bool false)]
 else
 (e_laws_markWorld.F [r7, (.int 1)]).bind fun r15 =>
 (e_laws_markZone.F [r8, (r15.fld 0)]).bind fun r16 =>
 (if (decide ((r16.fld 0).i < 0)) then
 ou 0 [(.bool true)]
 else
 (e_laws_eqWorld.F [(r9.fld 0), (r6.fld 0)]).bind fun r17 =>
 if (!r17.b) then
 ou 0 [(.bool true)]
 else
 ou 0 [(.bool (!((r9.fld 1).b == (r6.fld 1).b)))]).bind fun o17 =>
 sel2 o17.1 (if (gd o17.2 0).b then
 ou 0 [(.bool false)]
 else
 (e_laws_markWorld.F [(r9.fld 0), (.int 1)]).bind fun r18 =>
 (e_laws_heldWorld.F [(.pair ((r18.fld 1).fld 0) .unit), (.int 1)]).bind fun r19 =>
 if (decide (r19.i < 0)) then
 ou 0 [(.bool false)]
 else
 if (r19.i != (r18.fld 0).i) then
 ou 0 [(.bool false)]
 else
 (e_laws_toWorld.F [a0]).bind fun r20 =>
 (e_laws_toZone.F [a1]).bind fun r21 =>
 (e_impl_AddZone.F [r20, r21]).bind fun r22 =>
 ((e_laws_eqWorld.F [(r22.fld 0), (r6.fld 0)]).bind fun r23 =>
 if (!r23.b) then
 ou 0 [(.bool true)]
 else
 ou 0 [(.bool (!((r22.fld 1).b == (r6.fld 1).b)))]).bind fun o23 =>
 sel2 o23.1 (if (gd o23.2 0).b then
 ou 0 [(.bool false)]
 else
 (e_laws_heldWorld.F [(.pair ((r18.fld 1).fld 0) .unit), (.int 1)]).bind fun r24 =>
 if (decide (r24.i < 0)) then
 ou 0 [(.bool false)]
 else
 if (r24.i != (r18.fld 0).i) then
 ou 0 [(.bool false)]
 else
 ou 0 [(.bool true)]) fun _ => none) fun _ => none) fun _ => none) := by kernel_rfl
end Go.Proofs.YtbacjgkmkkphdaaGreatDoor
