/- What each function gives, told as plain code. -/
import Derived.Test.YtbacjgkmkkphdaaGreatDoorC
set_option linter.unusedSectionVars false
set_option linter.unusedVariables false
set_option linter.unusedSimpArgs false
namespace Go.Proofs.YtbacjgkmkkphdaaGreatDoor
open Go Go.Own
set_option maxRecDepth 100000
theorem q_spec_l1In (a0 a1 a2 : D) : e_spec_l1In.F [a0, a1, a2] = rn (
 (if (decide (a0.i ≥ a1.i)) then
 ou 0 [(.bool (decide (a0.i ≤ a2.i)))]
 else
 ou 0 [(.bool false)]).bind fun o3 =>
 sel2 o3.1 (ou 0 [(gd o3.2 0)]) fun _ => none) := by kernel_rfl
theorem q_spec_l1Split (a0 a1 : D) : e_spec_l1Split.F [a0, a1] = rn (
 (loopF (fun l2 =>
 if (decide ((gd l2 2).i < (a0.s.length : Int))) then
 (if (inb (gd l2 2).i a0.s.length) then
 if ((byteAt a0.s (gd l2 2).i.toNat : Int) == a1.i) then
 if (slOk (gd l2 1).i (gd l2 2).i (a0.s.length : Int)) then
 if (appOk 16 (gd l2 0).l ((.str ((a0.s.take (gd l2 2).i.toNat).drop (gd l2 1).i.toNat)) :: ([] : List D))) then
 ou 0 [(D.lst ((gd l2 0).l ++ ((.str ((a0.s.take (gd l2 2).i.toNat).drop (gd l2 1).i.toNat)) :: ([] : List D)))), (.int (IntKind.wrap .i64 ((gd l2 2).i + 1)))]
 else none
 else none
 else
 ou 0 [(gd l2 0), (gd l2 1)]
 else none).bind fun o5 =>
 sel2 o5.1 (ou 0 [(gd o5.2 0), (gd o5.2 1), (.int (IntKind.wrap .i64 ((gd l2 2).i + 1)))]) fun _ => none
 else
 ou 1 [(gd l2 0), (gd l2 1)]) [(D.lst []), (.int 0), (.int 0)]).bind fun o2 =>
 sel2 o2.1 (if (slOk (gd o2.2 1).i (a0.s.length : Int) (a0.s.length : Int)) then
 if (appOk 16 (gd o2.2 0).l ((.str ((a0.s.take (a0.s.length : Int).toNat).drop (gd o2.2 1).i.toNat)) :: ([] : List D))) then
 ou 0 [(D.lst ((gd o2.2 0).l ++ ((.str ((a0.s.take (a0.s.length : Int).toNat).drop (gd o2.2 1).i.toNat)) :: ([] : List D))))]
 else none
 else none) fun _ => none) := by kernel_rfl
theorem q_spec_l1Label (a0 : D) : e_spec_l1Label.F [a0] = rn (
 if (a0.s == ([42] : List UInt8)) then
 ou 0 [(.bool true)]
 else
 (loopF (fun l1 =>
 if (decide ((gd l1 0).i < (a0.s.length : Int))) then
 if (inb (gd l1 0).i a0.s.length) then
 (if (decide ((byteAt a0.s (gd l1 0).i.toNat : Int) ≥ 97)) then
 if (decide ((byteAt a0.s (gd l1 0).i.toNat : Int) ≤ 122)) then
 ou 0 [(.bool (!true))]
 else
 if (decide ((byteAt a0.s (gd l1 0).i.toNat : Int) ≥ 48)) then
 if (decide ((byteAt a0.s (gd l1 0).i.toNat : Int) ≤ 57)) then
 ou 0 [(.bool (!true))]
 else
 if ((byteAt a0.s (gd l1 0).i.toNat : Int) == 45) then
 ou 0 [(.bool (!true))]
 else
 ou 0 [(.bool (!((byteAt a0.s (gd l1 0).i.toNat : Int) == 95)))]
 else
 if ((byteAt a0.s (gd l1 0).i.toNat : Int) == 45) then
 ou 0 [(.bool (!true))]
 else
 ou 0 [(.bool (!((byteAt a0.s (gd l1 0).i.toNat : Int) == 95)))]
 else
 if (decide ((byteAt a0.s (gd l1 0).i.toNat : Int) ≥ 48)) then
 if (decide ((byteAt a0.s (gd l1 0).i.toNat : Int) ≤ 57)) then
 ou 0 [(.bool (!true))]
 else
 if ((byteAt a0.s (gd l1 0).i.toNat : Int) == 45) then
 ou 0 [(.bool (!true))]
 else
 ou 0 [(.bool (!((byteAt a0.s (gd l1 0).i.toNat : Int) == 95)))]
 else
 if ((byteAt a0.s (gd l1 0).i.toNat : Int) == 45) then
 ou 0 [(.bool (!true))]
 else
 ou 0 [(.bool (!((byteAt a0.s (gd l1 0).i.toNat : Int) == 95)))]).bind fun o2 =>
 sel2 o2.1 (if (gd o2.2 0).b then
 ou 1 []
 else
 ou 0 [(.int (IntKind.wrap .i64 ((gd l1 0).i + 1)))]) fun _ => none
 else none
 else
 ou 2 []) [(.int 0)]).bind fun o1 =>
 sel2 o1.1 (ou 0 [(.bool false)]) fun n4 =>
 sel2 n4 ((e_spec_l1In.F [(.int (a0.s.length : Int)), (.int 1), (.int 20)]).bind fun r1 =>
 ou 0 [r1]) fun _ => none) := by kernel_rfl
theorem q_spec_l1Labels (a0 : D) : e_spec_l1Labels.F [a0] = rn (
 if (a0.s == ([] : List UInt8)) then
 ou 0 [(.pair (D.lst []) (.pair (.bool true) .unit))]
 else
 (e_spec_l1Split.F [a0, (.int 46)]).bind fun r1 =>
 (loopF (fun l2 =>
 if (decide ((gd l2 0).i < (r1.l.length : Int))) then
 if (inb (gd l2 0).i r1.l.length) then
 (e_spec_l1Label.F [(gd r1.l (gd l2 0).i.toNat)]).bind fun r3 =>
 if (!r3.b) then
 ou 1 []
 else
 ou 0 [(.int (IntKind.wrap .i64 ((gd l2 0).i + 1)))]
 else none
 else
 ou 2 []) [(.int 0)]).bind fun o2 =>
 sel2 o2.1 (ou 0 [(.pair (D.lst []) (.pair (.bool false) .unit))]) fun n4 =>
 sel2 n4 ((if (decide ((a0.s.length : Int) ≤ 60)) then
 ou 0 [r1, (.bool (decide ((r1.l.length : Int) ≤ 8)))]
 else
 ou 0 [r1, (.bool false)]).bind fun o2 =>
 sel2 o2.1 (ou 0 [(.pair (gd o2.2 0) (.pair (gd o2.2 1) .unit))]) fun _ => none) fun _ => none) := by kernel_rfl
theorem q_spec_l6Apex (a0 : D) : e_spec_l6Apex.F [a0] = rn (
 (e_spec_l1Labels.F [a0]).bind fun r1 =>
 (loopF (fun l2 =>
 if (decide ((gd l2 1).i < ((r1.fld 0).l.length : Int))) then
 (if (inb (gd l2 1).i (r1.fld 0).l.length) then
 if (gd l2 0).b then
 ou 0 [(.bool (!((gd (r1.fld 0).l (gd l2 1).i.toNat).s == ([42] : List UInt8))))]
 else
 ou 0 [(.bool false)]
 else none).bind fun o4 =>
 sel2 o4.1 (ou 0 [(gd o4.2 0), (.int (IntKind.wrap .i64 ((gd l2 1).i + 1)))]) fun _ => none
 else
 ou 1 [(gd l2 0)]) [(r1.fld 1), (.int 0)]).bind fun o2 =>
 sel2 o2.1 (ou 0 [(gd o2.2 0)]) fun _ => none) := by kernel_rfl
theorem q_spec_l1Int (a0 : D) : e_spec_l1Int.F [a0] = rn (
 ((e_spec_l1In.F [(.int (a0.s.length : Int)), (.int 1), (.int 10)]).bind fun r1 =>
 if (!r1.b) then
 ou 0 [(.bool true)]
 else
 if (inb 0 a0.s.length) then
 if ((byteAt a0.s 0 : Int) == 48) then
 ou 0 [(.bool (decide ((a0.s.length : Int) > 1)))]
 else
 ou 0 [(.bool false)]
 else none).bind fun o1 =>
 sel2 o1.1 (if (gd o1.2 0).b then
 ou 0 [(.int (-1))]
 else
 (loopF (fun l2 =>
 if (decide ((gd l2 1).i < (a0.s.length : Int))) then
 (if (inb (gd l2 1).i a0.s.length) then
 if (decide ((byteAt a0.s (gd l2 1).i.toNat : Int) < 48)) then
 ou 0 [(.bool true)]
 else
 ou 0 [(.bool (decide ((byteAt a0.s (gd l2 1).i.toNat : Int) > 57)))]
 else none).bind fun o4 =>
 sel2 o4.1 (if (gd o4.2 0).b then
 ou 1 [(.int (-1))]
 else
 if (inb (gd l2 1).i a0.s.length) then
 ou 0 [(.int (IntKind.wrap .i64 ((IntKind.wrap .i64 (10 * (gd l2 0).i)) + (IntKind.wrap .i64 (IntKind.wrap .u8 ((byteAt a0.s (gd l2 1).i.toNat : Int) - 48)))))), (.int (IntKind.wrap .i64 ((gd l2 1).i + 1)))]
 else none) fun _ => none
 else
 ou 2 [(gd l2 0)]) [(.int 0), (.int 0)]).bind fun o2 =>
 sel2 o2.1 (ou 0 [(gd o2.2 0)]) fun n6 =>
 sel2 n6 (ou 0 [(gd o2.2 0)]) fun _ => none) fun _ => none) := by kernel_rfl
theorem q_spec_l3Number (a0 a1 : D) : e_spec_l3Number.F [a0, a1] = rn (
 if (makeOk 1 a1.i) then
 (loopF (fun l2 =>
 if (decide ((gd l2 2).i ≥ 0)) then
 if (inb (gd l2 2).i (gd l2 1).l.length) then
 if (decide (0 ≤ 8)) then
 ou 0 [(.int ((gd l2 0).i.fdiv (2 ^ min 8 (IntKind.bits .i64)))), (D.lst ((gd l2 1).l.set (gd l2 2).i.toNat (.int (IntKind.wrap .u8 (gd l2 0).i)))), (.int (IntKind.wrap .i64 ((gd l2 2).i - 1)))]
 else none
 else none
 else
 ou 1 [(gd l2 1)]) [a0, (D.lst (List.replicate a1.i.toNat (.int 0))), (.int (IntKind.wrap .i64 (a1.i - 1)))]).bind fun o2 =>
 sel2 o2.1 (ou 0 [(.str (bytesStr (gd o2.2 0).l))]) fun _ => none
 else none) := by kernel_rfl
theorem q_spec_l3Target (a0 : D) : e_spec_l3Target.F [a0] = rn (
 (e_spec_l1Labels.F [a0]).bind fun r1 =>
 (loopF (fun l2 =>
 if (decide ((gd l2 1).i < ((r1.fld 0).l.length : Int))) then
 (if (inb (gd l2 1).i (r1.fld 0).l.length) then
 if (gd l2 0).b then
 ou 0 [(.bool (!((gd (r1.fld 0).l (gd l2 1).i.toNat).s == ([42] : List UInt8))))]
 else
 ou 0 [(.bool false)]
 else none).bind fun o4 =>
 sel2 o4.1 (ou 0 [(gd o4.2 0), (.int (IntKind.wrap .i64 ((gd l2 1).i + 1)))]) fun _ => none
 else
 ou 1 [(gd l2 0)]) [(r1.fld 1), (.int 0)]).bind fun o2 =>
 sel2 o2.1 ((if (gd o2.2 0).b then
 ou 0 [(.bool (!(a0.s == ([] : List UInt8))))]
 else
 ou 0 [(.bool false)]).bind fun o3 =>
 sel2 o3.1 (ou 0 [(gd o3.2 0)]) fun _ => none) fun _ => none) := by kernel_rfl
theorem q_spec_l2Bytes (a0 : D) : e_spec_l2Bytes.F [a0] = rn (
 (e_spec_l1Labels.F [a0]).bind fun r1 =>
 (loopF (fun l2 =>
 if (decide ((gd l2 1).i < ((r1.fld 0).l.length : Int))) then
 if (inb (gd l2 1).i (r1.fld 0).l.length) then
 if (catOk (bytesStr ((.int (IntKind.wrap .u8 ((gd (r1.fld 0).l (gd l2 1).i.toNat).s.length : Int))) :: ([] : List D))) (gd (r1.fld 0).l (gd l2 1).i.toNat).s) then
 if (catOk (gd l2 0).s ((bytesStr ((.int (IntKind.wrap .u8 ((gd (r1.fld 0).l (gd l2 1).i.toNat).s.length : Int))) :: ([] : List D))) ++ (gd (r1.fld 0).l (gd l2 1).i.toNat).s)) then
 ou 0 [(.str ((gd l2 0).s ++ ((bytesStr ((.int (IntKind.wrap .u8 ((gd (r1.fld 0).l (gd l2 1).i.toNat).s.length : Int))) :: ([] : List D))) ++ (gd (r1.fld 0).l (gd l2 1).i.toNat).s))), (.int (IntKind.wrap .i64 ((gd l2 1).i + 1)))]
 else none
 else none
 else none
 else
 ou 1 [(gd l2 0)]) [(D.str []), (.int 0)]).bind fun o2 =>
 sel2 o2.1 (if (catOk (gd o2.2 0).s ([0] : List UInt8)) then
 ou 0 [(.str ((gd o2.2 0).s ++ ([0] : List UInt8)))]
 else none) fun _ => none) := by kernel_rfl
theorem q_spec_l3Bytes (a0 a1 : D) : e_spec_l3Bytes.F [a0, a1] = rn (
 if (a0.i == 1) then
 (e_spec_l1Split.F [a1, (.int 46)]).bind fun r2 =>
 (loopF (fun l3 =>
 if (decide ((gd l3 1).i < (r2.l.length : Int))) then
 if (inb (gd l3 1).i r2.l.length) then
 (e_spec_l1Int.F [(gd r2.l (gd l3 1).i.toNat)]).bind fun r5 =>
 (e_spec_l1In.F [r5, (.int 0), (.int 255)]).bind fun r6 =>
 if (!r6.b) then
 ou 1 []
 else
 (e_spec_l3Number.F [r5, (.int 1)]).bind fun r7 =>
 if (catOk (gd l3 0).s r7.s) then
 ou 0 [(.str ((gd l3 0).s ++ r7.s)), (.int (IntKind.wrap .i64 ((gd l3 1).i + 1)))]
 else none
 else none
 else
 ou 2 [(gd l3 0)]) [(D.str []), (.int 0)]).bind fun o3 =>
 sel2 o3.1 (ou 0 [(.pair (D.str []) (.pair (.bool false) .unit))]) fun n4 =>
 sel2 n4 (ou 0 [(.pair (gd o3.2 0) (.pair (.bool ((r2.l.length : Int) == 4)) .unit))]) fun _ => none
 else
 (if (a0.i == 2) then
 ou 0 [(.bool (a0.i == 2))]
 else
 ou 0 [(.bool (a0.i == 5))]).bind fun o2 =>
 sel2 o2.1 (if (gd o2.2 0).b then
 (e_spec_l3Target.F [a1]).bind fun r3 =>
 if (!r3.b) then
 ou 0 [(.pair (D.str []) (.pair (.bool false) .unit))]
 else
 (e_spec_l2Bytes.F [a1]).bind fun r4 =>
 ou 0 [(.pair r4 (.pair (.bool true) .unit))]
 else
 if (a0.i == 6) then
 (e_spec_l1Int.F [a1]).bind fun r3 =>
 (e_spec_l3Number.F [r3, (.int 4)]).bind fun r4 =>
 (e_spec_l1In.F [r3, (.int 0), (.int 4294967295)]).bind fun r5 =>
 ou 0 [(.pair r4 (.pair r5 .unit))]
 else
 if (a0.i == 15) then
 (e_spec_l1Split.F [a1, (.int 32)]).bind fun r3 =>
 (if ((r3.l.length : Int) != 2) then
 ou 0 [(.bool true)]
 else
 if (inb 0 r3.l.length) then
 (e_spec_l1Int.F [(gd r3.l 0)]).bind fun r4 =>
 (e_spec_l1In.F [r4, (.int 0), (.int 65535)]).bind fun r5 =>
 if (!r5.b) then
 ou 0 [(.bool true)]
 else
 if (inb 1 r3.l.length) then
 (e_spec_l3Target.F [(gd r3.l 1)]).bind fun r6 =>
 ou 0 [(.bool (!r6.b))]
 else none
 else none).bind fun o4 =>
 sel2 o4.1 (if (gd o4.2 0).b then
 ou 0 [(.pair (D.str []) (.pair (.bool false) .unit))]
 else
 if (inb 0 r3.l.length) then
 (e_spec_l1Int.F [(gd r3.l 0)]).bind fun r5 =>
 (e_spec_l3Number.F [r5, (.int 2)]).bind fun r6 =>
 if (inb 1 r3.l.length) then
 (e_spec_l2Bytes.F [(gd r3.l 1)]).bind fun r7 =>
 if (catOk r6.s r7.s) then
 ou 0 [(.pair (.str (r6.s ++ r7.s)) (.pair (.bool true) .unit))]
 else none
 else none
 else none) fun _ => none
 else
 if (a0.i == 16) then
 (loopF (fun l3 =>
 if (decide ((gd l3 0).i < (a1.s.length : Int))) then
 (if (inb (gd l3 0).i a1.s.length) then
 if (decide ((byteAt a1.s (gd l3 0).i.toNat : Int) < 32)) then
 ou 0 [(.bool true)]
 else
 ou 0 [(.bool (decide ((byteAt a1.s (gd l3 0).i.toNat : Int) > 126)))]
 else none).bind fun o4 =>
 sel2 o4.1 (if (gd o4.2 0).b then
 ou 1 [(D.str []), (.bool false)]
 else
 ou 0 [(.int (IntKind.wrap .i64 ((gd l3 0).i + 1)))]) fun _ => none
 else
 ou 2 []) [(.int 0)]).bind fun o3 =>
 sel2 o3.1 (ou 0 [(.pair (gd o3.2 0) (.pair (gd o3.2 1) .unit))]) fun n14 =>
 sel2 n14 (if (catOk (bytesStr ((.int (IntKind.wrap .u8 (a1.s.length : Int))) :: ([] : List D))) a1.s) then
 ou 0 [(.pair (.str ((bytesStr ((.int (IntKind.wrap .u8 (a1.s.length : Int))) :: ([] : List D))) ++ a1.s)) (.pair (.bool (decide ((a1.s.length : Int) ≤ 30))) .unit))]
 else none) fun _ => none
 else
 ou 0 [(.pair (D.str []) (.pair (.bool false) .unit))]) fun _ => none) := by kernel_rfl
theorem q_spec_GoodName (a0 : D) : e_spec_GoodName.F [a0] = rn (
 (e_spec_l1Labels.F [a0]).bind fun r1 =>
 ou 0 [(r1.fld 1)]) := by kernel_rfl
theorem q_spec_GoodRecord (a0 : D) : e_spec_GoodRecord.F [a0] = rn (
 (e_spec_l3Bytes.F [(a0.fld 1), (a0.fld 3)]).bind fun r1 =>
 (if (r1.fld 1).b then
 (e_spec_GoodName.F [(a0.fld 0)]).bind fun r2 =>
 if r2.b then
 (e_spec_l1In.F [(a0.fld 2), (.int 0), (.int 100000)]).bind fun r3 =>
 ou 0 [r3]
 else
 ou 0 [(.bool false)]
 else
 ou 0 [(.bool false)]).bind fun o2 =>
 sel2 o2.1 (ou 0 [(gd o2.2 0)]) fun _ => none) := by kernel_rfl
theorem q_spec_l1Compare (a0 a1 : D) : e_spec_l1Compare.F [a0, a1] = rn (
 (e_spec_l1Labels.F [a0]).bind fun r2 =>
 (e_spec_l1Labels.F [a1]).bind fun r3 =>
 (loopF (fun l4 =>
 (if (decide ((gd l4 0).i ≤ ((r2.fld 0).l.length : Int))) then
 ou 0 [(.bool (decide ((gd l4 0).i ≤ ((r3.fld 0).l.length : Int))))]
 else
 ou 0 [(.bool false)]).bind fun o5 =>
 sel2 o5.1 (if (gd o5.2 0).b then
 if (inb (IntKind.wrap .i64 (((r2.fld 0).l.length : Int) - (gd l4 0).i)) (r2.fld 0).l.length) then
 if (inb (IntKind.wrap .i64 (((r3.fld 0).l.length : Int) - (gd l4 0).i)) (r3.fld 0).l.length) then
 if (Op.bytesLess (gd (r2.fld 0).l (IntKind.wrap .i64 (((r2.fld 0).l.length : Int) - (gd l4 0).i)).toNat).s (gd (r3.fld 0).l (IntKind.wrap .i64 (((r3.fld 0).l.length : Int) - (gd l4 0).i)).toNat).s) then
 ou 1 [(.int (-1))]
 else
 if (!(Op.bytesLess (gd (r2.fld 0).l (IntKind.wrap .i64 (((r2.fld 0).l.length : Int) - (gd l4 0).i)).toNat).s (gd (r3.fld 0).l (IntKind.wrap .i64 (((r3.fld 0).l.length : Int) - (gd l4 0).i)).toNat).s || (gd (r2.fld 0).l (IntKind.wrap .i64 (((r2.fld 0).l.length : Int) - (gd l4 0).i)).toNat).s == (gd (r3.fld 0).l (IntKind.wrap .i64 (((r3.fld 0).l.length : Int) - (gd l4 0).i)).toNat).s)) then
 ou 1 [(.int 1)]
 else
 ou 0 [(.int (IntKind.wrap .i64 ((gd l4 0).i + 1)))]
 else none
 else none
 else
 ou 2 []) fun _ => none) [(.int 1)]).bind fun o4 =>
 sel2 o4.1 (ou 0 [(gd o4.2 0)]) fun n2 =>
 sel2 n2 (if (decide (((r2.fld 0).l.length : Int) < ((r3.fld 0).l.length : Int))) then
 ou 0 [(.int (-1))]
 else
 if (decide (((r2.fld 0).l.length : Int) > ((r3.fld 0).l.length : Int))) then
 ou 0 [(.int 1)]
 else
 ou 0 [(.int 0)]) fun _ => none) := by kernel_rfl
theorem q_spec_l3Less (a0 : D) : e_spec_l3Less.F [a0] = rn (
 if a0.b then
 ou 0 [(.int (-1))]
 else
 ou 0 [(.int 1)]) := by kernel_rfl
theorem q_spec_l3Compare (a0 a1 : D) : e_spec_l3Compare.F [a0, a1] = rn (
 (e_spec_l1Compare.F [(a0.fld 0), (a1.fld 0)]).bind fun r2 =>
 if (r2.i != 0) then
 ou 0 [r2]
 else
 (e_spec_l3Bytes.F [(a0.fld 1), (a0.fld 3)]).bind fun r3 =>
 (e_spec_l3Bytes.F [(a1.fld 1), (a1.fld 3)]).bind fun r4 =>
 if ((a0.fld 1).i != (a1.fld 1).i) then
 (e_spec_l3Less.F [(.bool (decide ((a0.fld 1).i < (a1.fld 1).i)))]).bind fun r5 =>
 ou 0 [r5]
 else
 if (!((r3.fld 0).s == (r4.fld 0).s)) then
 (e_spec_l3Less.F [(.bool (Op.bytesLess (r3.fld 0).s (r4.fld 0).s))]).bind fun r5 =>
 ou 0 [r5]
 else
 if ((a0.fld 2).i != (a1.fld 2).i) then
 (e_spec_l3Less.F [(.bool (decide ((a0.fld 2).i < (a1.fld 2).i)))]).bind fun r5 =>
 ou 0 [r5]
 else
 ou 0 [(.int 0)]) := by kernel_rfl
theorem q_spec_l6List (a0 : D) : e_spec_l6List.F [a0] = rn (
 (loopF (fun l1 =>
 if (decide ((gd l1 0).i < (a0.l.length : Int))) then
 if (inb (gd l1 0).i a0.l.length) then
 ((e_spec_GoodRecord.F [(gd a0.l (gd l1 0).i.toNat)]).bind fun r2 =>
 if (!r2.b) then
 ou 0 [(.bool true)]
 else
 if (decide ((gd l1 0).i > 0)) then
 if (inb (IntKind.wrap .i64 ((gd l1 0).i - 1)) a0.l.length) then
 (e_spec_l3Compare.F [(gd a0.l (IntKind.wrap .i64 ((gd l1 0).i - 1)).toNat), (gd a0.l (gd l1 0).i.toNat)]).bind fun r3 =>
 ou 0 [(.bool (decide (r3.i ≥ 0)))]
 else none
 else
 ou 0 [(.bool false)]).bind fun o2 =>
 sel2 o2.1 (if (gd o2.2 0).b then
 ou 1 []
 else
 ou 0 [(.int (IntKind.wrap .i64 ((gd l1 0).i + 1)))]) fun _ => none
 else none
 else
 ou 2 []) [(.int 0)]).bind fun o1 =>
 sel2 o1.1 (ou 0 [(.bool false)]) fun n2 =>
 sel2 n2 (ou 0 [(.bool (decide ((a0.l.length : Int) ≤ 40)))]) fun _ => none) := by kernel_rfl
theorem q_spec_l1Below (a0 a1 : D) : e_spec_l1Below.F [a0, a1] = rn (
 (if (a1.s == ([] : List UInt8)) then
 ou 0 [(.bool true)]
 else
 if (a0.s == a1.s) then
 ou 0 [(.bool true)]
 else
 if (decide ((IntKind.wrap .i64 ((a0.s.length : Int) - (a1.s.length : Int))) > 0)) then
 if (slOk (IntKind.wrap .i64 ((a0.s.length : Int) - (a1.s.length : Int))) (a0.s.length : Int) (a0.s.length : Int)) then
 if (((a0.s.take (a0.s.length : Int).toNat).drop (IntKind.wrap .i64 ((a0.s.length : Int) - (a1.s.length : Int))).toNat) == a1.s) then
 if (inb (IntKind.wrap .i64 ((IntKind.wrap .i64 ((a0.s.length : Int) - (a1.s.length : Int))) - 1)) a0.s.length) then
 ou 0 [(.bool ((byteAt a0.s (IntKind.wrap .i64 ((IntKind.wrap .i64 ((a0.s.length : Int) - (a1.s.length : Int))) - 1)).toNat : Int) == 46))]
 else none
 else
 ou 0 [(.bool false)]
 else none
 else
 ou 0 [(.bool false)]).bind fun o2 =>
 sel2 o2.1 (ou 0 [(gd o2.2 0)]) fun _ => none) := by kernel_rfl
theorem q_spec_l6Has (a0 a1 a2 : D) : e_spec_l6Has.F [a0, a1, a2] = rn (
 (loopF (fun l3 =>
 if (decide ((gd l3 0).i < (a0.l.length : Int))) then
 if (inb (gd l3 0).i a0.l.length) then
 (if (((gd a0.l (gd l3 0).i.toNat).fld 0).s == a1.s) then
 ou 0 [(.bool (((gd a0.l (gd l3 0).i.toNat).fld 1).i == a2.i))]
 else
 ou 0 [(.bool false)]).bind fun o4 =>
 sel2 o4.1 (if (gd o4.2 0).b then
 ou 1 [(.bool true)]
 else
 ou 0 [(.int (IntKind.wrap .i64 ((gd l3 0).i + 1)))]) fun _ => none
 else none
 else
 ou 2 []) [(.int 0)]).bind fun o3 =>
 sel2 o3.1 (ou 0 [(gd o3.2 0)]) fun n2 =>
 sel2 n2 (ou 0 [(.bool false)]) fun _ => none) := by kernel_rfl
theorem q_spec_l1Parent (a0 : D) : e_spec_l1Parent.F [a0] = rn (
 (loopF (fun l1 =>
 if (decide ((gd l1 0).i < (a0.s.length : Int))) then
 if (inb (gd l1 0).i a0.s.length) then
 if ((byteAt a0.s (gd l1 0).i.toNat : Int) == 46) then
 if (slOk (IntKind.wrap .i64 ((gd l1 0).i + 1)) (a0.s.length : Int) (a0.s.length : Int)) then
 ou 1 [(.str ((a0.s.take (a0.s.length : Int).toNat).drop (IntKind.wrap .i64 ((gd l1 0).i + 1)).toNat))]
 else none
 else
 ou 0 [(.int (IntKind.wrap .i64 ((gd l1 0).i + 1)))]
 else none
 else
 ou 2 []) [(.int 0)]).bind fun o1 =>
 sel2 o1.1 (ou 0 [(gd o1.2 0)]) fun n2 =>
 sel2 n2 (ou 0 [(D.str [])]) fun _ => none) := by kernel_rfl
theorem q_spec_l6Cut (a0 a1 a2 : D) : e_spec_l6Cut.F [a0, a1, a2] = rn (
 (loopF (fun l3 =>
 (if (!((gd l3 0).s == a0.s)) then
 (e_spec_l1Below.F [(gd l3 0), a0]).bind fun r6 =>
 ou 0 [r6]
 else
 ou 0 [(.bool false)]).bind fun o6 =>
 sel2 o6.1 (if (gd o6.2 0).b then
 ((e_spec_l6Has.F [a1, (gd l3 0), (.int 2)]).bind fun r7 =>
 if r7.b then
 ou 0 [(gd l3 0), (.bool true)]
 else
 ou 0 [(gd l3 1), (gd l3 2)]).bind fun o7 =>
 sel2 o7.1 (if ((gd l3 0).s == ([] : List UInt8)) then
 ou 1 [(gd o7.2 0), (gd o7.2 1)]
 else
 (e_spec_l1Parent.F [(gd l3 0)]).bind fun r9 =>
 ou 0 [r9, (gd o7.2 0), (gd o7.2 1)]) fun _ => none
 else
 ou 1 [(gd l3 1), (gd l3 2)]) fun _ => none) [a2, (D.str []), (.bool false)]).bind fun o3 =>
 sel2 o3.1 (ou 0 [(.pair (gd o3.2 0) (.pair (gd o3.2 1) .unit))]) fun _ => none) := by kernel_rfl
theorem q_spec_l6Rule (a0 a1 : D) : e_spec_l6Rule.F [a0, a1] = rn (
 (loopF (fun l2 =>
 if (decide ((gd l2 1).i < (a1.l.length : Int))) then
 (if (inb (gd l2 1).i a1.l.length) then
 (e_spec_l1Below.F [((gd a1.l (gd l2 1).i.toNat).fld 0), a0]).bind fun r4 =>
 if (!r4.b) then
 ou 1 [(.int 1)]
 else
 if (((gd a1.l (gd l2 1).i.toNat).fld 1).i == 6) then
 if (!(((gd a1.l (gd l2 1).i.toNat).fld 0).s == a0.s)) then
 ou 0 [(.int (IntKind.wrap .i64 ((IntKind.wrap .i64 ((gd l2 0).i + 1)) + 1)))]
 else
 ou 0 [(.int (IntKind.wrap .i64 ((gd l2 0).i + 1)))]
 else
 ou 0 [(gd l2 0)]
 else none).bind fun o4 =>
 sel2 o4.1 (ou 0 [(gd o4.2 0), (.int (IntKind.wrap .i64 ((gd l2 1).i + 1)))]) fun n8 =>
 sel2 n8 (ou 1 [(gd o4.2 0)]) fun _ => none
 else
 ou 2 [(gd l2 0)]) [(.int 0), (.int 0)]).bind fun o2 =>
 sel2 o2.1 (ou 0 [(gd o2.2 0)]) fun n2 =>
 sel2 n2 (if ((gd o2.2 0).i != 1) then
 ou 0 [(.int 2)]
 else
 (loopF (fun l3 =>
 if (decide ((gd l3 0).i < (a1.l.length : Int))) then
 if (inb (gd l3 0).i a1.l.length) then
 (if (decide ((gd l3 0).i > 0)) then
 if (inb (IntKind.wrap .i64 ((gd l3 0).i - 1)) a1.l.length) then
 if (((gd a1.l (IntKind.wrap .i64 ((gd l3 0).i - 1)).toNat).fld 0).s == ((gd a1.l (gd l3 0).i.toNat).fld 0).s) then
 if (((gd a1.l (IntKind.wrap .i64 ((gd l3 0).i - 1)).toNat).fld 1).i == ((gd a1.l (gd l3 0).i.toNat).fld 1).i) then
 if (((gd a1.l (IntKind.wrap .i64 ((gd l3 0).i - 1)).toNat).fld 2).i != ((gd a1.l (gd l3 0).i.toNat).fld 2).i) then
 ou 0 [(.bool true)]
 else
 ou 0 [(.bool (((gd a1.l (IntKind.wrap .i64 ((gd l3 0).i - 1)).toNat).fld 3).s == ((gd a1.l (gd l3 0).i.toNat).fld 3).s))]
 else
 ou 0 [(.bool false)]
 else
 ou 0 [(.bool false)]
 else none
 else
 ou 0 [(.bool false)]).bind fun o4 =>
 sel2 o4.1 (if (gd o4.2 0).b then
 ou 1 [(.int 3)]
 else
 ou 0 [(.int (IntKind.wrap .i64 ((gd l3 0).i + 1)))]) fun _ => none
 else none
 else
 ou 2 []) [(.int 0)]).bind fun o3 =>
 sel2 o3.1 (ou 0 [(gd o3.2 0)]) fun n6 =>
 sel2 n6 ((loopF (fun l3 =>
 if (decide ((gd l3 0).i < (a1.l.length : Int))) then
 if (inb (gd l3 0).i a1.l.length) then
 if (slOk 0 (gd l3 0).i (a1.l.length : Int)) then
 (loopF (fun l4 =>
 if (decide ((gd l4 0).i < (((a1.l.take (gd l3 0).i.toNat).drop 0).length : Int))) then
 if (inb (gd l4 0).i ((a1.l.take (gd l3 0).i.toNat).drop 0).length) then
 (if (((gd (D.lst ((a1.l.take (gd l3 0).i.toNat).drop 0)).l (gd l4 0).i.toNat).fld 0).s == ((gd a1.l (gd l3 0).i.toNat).fld 0).s) then
 if (((gd (D.lst ((a1.l.take (gd l3 0).i.toNat).drop 0)).l (gd l4 0).i.toNat).fld 1).i == 5) then
 ou 0 [(.bool true)]
 else
 ou 0 [(.bool (((gd a1.l (gd l3 0).i.toNat).fld 1).i == 5))]
 else
 ou 0 [(.bool false)]).bind fun o5 =>
 sel2 o5.1 (if (gd o5.2 0).b then
 ou 1 [(.int 4)]
 else
 ou 0 [(.int (IntKind.wrap .i64 ((gd l4 0).i + 1)))]) fun _ => none
 else none
 else
 ou 2 []) [(.int 0)]).bind fun o4 =>
 sel2 o4.1 (ou 1 [(gd o4.2 0)]) fun n14 =>
 sel2 n14 (ou 0 [(.int (IntKind.wrap .i64 ((gd l3 0).i + 1)))]) fun _ => none
 else none
 else none
 else
 ou 2 []) [(.int 0)]).bind fun o3 =>
 sel2 o3.1 (ou 0 [(gd o3.2 0)]) fun n8 =>
 sel2 n8 ((e_spec_l6Has.F [a1, a0, (.int 5)]).bind fun r3 =>
 if r3.b then
 ou 0 [(.int 5)]
 else
 (loopF (fun l4 =>
 if (decide ((gd l4 0).i < (a1.l.length : Int))) then
 if (inb (gd l4 0).i a1.l.length) then
 (e_spec_l6Cut.F [a0, a1, ((gd a1.l (gd l4 0).i.toNat).fld 0)]).bind fun r5 =>
 (if (r5.fld 1).b then
 if (((gd a1.l (gd l4 0).i.toNat).fld 1).i != 1) then
 if (((gd a1.l (gd l4 0).i.toNat).fld 1).i != 2) then
 ou 0 [(.bool true)]
 else
 ou 0 [(.bool (!(((gd a1.l (gd l4 0).i.toNat).fld 0).s == (r5.fld 0).s)))]
 else
 ou 0 [(.bool false)]
 else
 ou 0 [(.bool false)]).bind fun o6 =>
 sel2 o6.1 (if (gd o6.2 0).b then
 ou 1 [(.int 6)]
 else
 ou 0 [(.int (IntKind.wrap .i64 ((gd l4 0).i + 1)))]) fun _ => none
 else none
 else
 ou 2 []) [(.int 0)]).bind fun o4 =>
 sel2 o4.1 (ou 0 [(gd o4.2 0)]) fun n12 =>
 sel2 n12 (ou 0 [(.int 0)]) fun _ => none) fun _ => none) fun _ => none) fun _ => none) := by kernel_rfl
theorem q_spec_RuleOf (a0 a1 : D) : e_spec_RuleOf.F [a0, a1] = rn (
 ((e_spec_l6Apex.F [a0]).bind fun r2 =>
 if (!r2.b) then
 ou 0 [(.bool true)]
 else
 (e_spec_l6List.F [a1]).bind fun r3 =>
 ou 0 [(.bool (!r3.b))]).bind fun o2 =>
 sel2 o2.1 (if (gd o2.2 0).b then
 ou 0 [(.int 9)]
 else
 (e_spec_l6Rule.F [a0, a1]).bind fun r3 =>
 ou 0 [r3]) fun _ => none) := by kernel_rfl
theorem q_spec_l1Num (k : Nat) (a0 : D) : f_rec_spec_l1Num (k + 1) [a0] = rn (
 if (decide (a0.i < 10)) then
 ou 0 [(.str (bytesStr ((.int (IntKind.wrap .u8 (IntKind.wrap .i64 (48 + a0.i)))) :: ([] : List D))))]
 else
 if (10 != 0) then
 (f_rec_spec_l1Num k [(.int (IntKind.wrap .i64 (a0.i.tdiv 10)))]).bind fun r1 =>
 if (catOk r1.s (bytesStr ((.int (IntKind.wrap .u8 (IntKind.wrap .i64 (48 + (a0.i.tmod 10))))) :: ([] : List D)))) then
 ou 0 [(.str (r1.s ++ (bytesStr ((.int (IntKind.wrap .u8 (IntKind.wrap .i64 (48 + (a0.i.tmod 10))))) :: ([] : List D)))))]
 else none
 else none) := by kernel_rfl
theorem q_spec_l6Soa (a0 : D) : e_spec_l6Soa.F [a0] = rn (
 if (4294967296 != 0) then
 (e_spec_l1Num.F [(.int ((a0.fld 1).i.tmod 4294967296))]).bind fun r1 =>
 ou 0 [r1]
 else none) := by kernel_rfl
theorem q_spec_GoodZone (a0 : D) : e_spec_GoodZone.F [a0] = rn (
 ((e_spec_l1In.F [(a0.fld 1), (.int 0), (.int 1152921504606846976)]).bind fun r1 =>
 if (!r1.b) then
 ou 0 [(.bool true)]
 else
 (e_spec_RuleOf.F [(a0.fld 0), (a0.fld 2)]).bind fun r2 =>
 ou 0 [(.bool (r2.i != 0))]).bind fun o1 =>
 sel2 o1.1 (if (gd o1.2 0).b then
 ou 0 [(.bool false)]
 else
 (loopF (fun l2 =>
 if (decide ((gd l2 0).i < ((a0.fld 2).l.length : Int))) then
 if (inb (gd l2 0).i (a0.fld 2).l.length) then
 (if (((gd (a0.fld 2).l (gd l2 0).i.toNat).fld 1).i == 6) then
 (e_spec_l6Soa.F [a0]).bind fun r3 =>
 ou 0 [(.bool (!(((gd (a0.fld 2).l (gd l2 0).i.toNat).fld 3).s == r3.s)))]
 else
 ou 0 [(.bool false)]).bind fun o3 =>
 sel2 o3.1 (if (gd o3.2 0).b then
 ou 1 [(.bool false)]
 else
 ou 0 [(.int (IntKind.wrap .i64 ((gd l2 0).i + 1)))]) fun _ => none
 else none
 else
 ou 2 []) [(.int 0)]).bind fun o2 =>
 sel2 o2.1 (ou 0 [(gd o2.2 0)]) fun n6 =>
 sel2 n6 (ou 0 [(.bool true)]) fun _ => none) fun _ => none) := by kernel_rfl
theorem q_spec_GoodWorld (a0 : D) : e_spec_GoodWorld.F [a0] = rn (
 ((e_spec_l1In.F [(.int ((a0.fld 0).l.length : Int)), (.int 1), (.int 6)]).bind fun r1 =>
 if (!r1.b) then
 ou 0 [(.bool true)]
 else
 if (inb 0 (a0.fld 0).l.length) then
 ou 0 [(.bool (!(((gd (a0.fld 0).l 0).fld 0).s == ([] : List UInt8))))]
 else none).bind fun o1 =>
 sel2 o1.1 (if (gd o1.2 0).b then
 ou 0 [(.bool false)]
 else
 (loopF (fun l2 =>
 if (decide ((gd l2 0).i < ((a0.fld 0).l.length : Int))) then
 if (inb (gd l2 0).i (a0.fld 0).l.length) then
 ((e_spec_GoodZone.F [(gd (a0.fld 0).l (gd l2 0).i.toNat)]).bind fun r3 =>
 if (!r3.b) then
 ou 0 [(.bool true)]
 else
 if (decide ((gd l2 0).i > 0)) then
 if (inb (IntKind.wrap .i64 ((gd l2 0).i - 1)) (a0.fld 0).l.length) then
 (e_spec_l1Compare.F [((gd (a0.fld 0).l (IntKind.wrap .i64 ((gd l2 0).i - 1)).toNat).fld 0), ((gd (a0.fld 0).l (gd l2 0).i.toNat).fld 0)]).bind fun r4 =>
 ou 0 [(.bool (decide (r4.i ≥ 0)))]
 else none
 else
 ou 0 [(.bool false)]).bind fun o3 =>
 sel2 o3.1 (if (gd o3.2 0).b then
 ou 1 [(.bool false)]
 else
 ou 0 [(.int (IntKind.wrap .i64 ((gd l2 0).i + 1)))]) fun _ => none
 else none
 else
 ou 2 []) [(.int 0)]).bind fun o2 =>
 sel2 o2.1 (ou 0 [(gd o2.2 0)]) fun n6 =>
 sel2 n6 (ou 0 [(.bool true)]) fun _ => none) fun _ => none) := by kernel_rfl
theorem q_spec_l6Own (a0 : D) : e_spec_l6Own.F [a0] = rn (
 if (appOk 48 ([] : List D) (a0.fld 2).l) then
 ou 0 [(a0.setFld 2 (D.lst (([] : List D) ++ (a0.fld 2).l)))]
 else none) := by kernel_rfl
theorem q_spec_AddZone (a0 a1 : D) : e_spec_AddZone.F [a0, a1] = rn (
 ((e_spec_GoodWorld.F [a0]).bind fun r2 =>
 if (!r2.b) then
 ou 0 [(.bool true)]
 else
 (e_spec_GoodZone.F [a1]).bind fun r3 =>
 ou 0 [(.bool (!r3.b))]).bind fun o2 =>
 sel2 o2.1 (if (gd o2.2 0).b then
 ou 0 [(.pair (.pair (D.lst []) .unit) (.pair (.bool false) .unit))]
 else
 (loopF (fun l3 =>
 if (decide ((gd l3 2).i < ((a0.fld 0).l.length : Int))) then
 if (inb (gd l3 2).i (a0.fld 0).l.length) then
 ((e_spec_l1Compare.F [(a1.fld 0), ((gd (a0.fld 0).l (gd l3 2).i.toNat).fld 0)]).bind fun r6 =>
 if (r6.i == 0) then
 ou 1 [(.pair (D.lst []) .unit), (.bool false)]
 else
 (if (decide (r6.i < 0)) then
 ou 0 [(.bool (!(gd l3 1).b))]
 else
 ou 0 [(.bool false)]).bind fun o7 =>
 sel2 o7.1 (if (gd o7.2 0).b then
 (e_spec_l6Own.F [a1]).bind fun r8 =>
 if (appOk 48 ((gd l3 0).fld 0).l (r8 :: ([] : List D))) then
 ou 0 [((gd l3 0).setFld 0 (D.lst (((gd l3 0).fld 0).l ++ (r8 :: ([] : List D))))), (.bool true)]
 else none
 else
 ou 0 [(gd l3 0), (gd l3 1)]) fun _ => none).bind fun o6 =>
 sel2 o6.1 ((e_spec_l6Own.F [(gd (a0.fld 0).l (gd l3 2).i.toNat)]).bind fun r8 =>
 if (appOk 48 ((gd o6.2 0).fld 0).l (r8 :: ([] : List D))) then
 ou 0 [((gd o6.2 0).setFld 0 (D.lst (((gd o6.2 0).fld 0).l ++ (r8 :: ([] : List D))))), (gd o6.2 1), (.int (IntKind.wrap .i64 ((gd l3 2).i + 1)))]
 else none) fun n12 =>
 sel2 n12 (ou 1 [(gd o6.2 0), (gd o6.2 1)]) fun _ => none
 else none
 else
 ou 2 [(gd l3 0), (gd l3 1)]) [(.pair (D.lst []) .unit), (.bool false), (.int 0)]).bind fun o3 =>
 sel2 o3.1 (ou 0 [(.pair (gd o3.2 0) (.pair (gd o3.2 1) .unit))]) fun n6 =>
 sel2 n6 ((if (!(gd o3.2 1).b) then
 (e_spec_l6Own.F [a1]).bind fun r5 =>
 if (appOk 48 ((gd o3.2 0).fld 0).l (r5 :: ([] : List D))) then
 ou 0 [((gd o3.2 0).setFld 0 (D.lst (((gd o3.2 0).fld 0).l ++ (r5 :: ([] : List D)))))]
 else none
 else
 ou 0 [(gd o3.2 0)]).bind fun o5 =>
 sel2 o5.1 ((e_spec_GoodWorld.F [(gd o5.2 0)]).bind fun r6 =>
 if (!r6.b) then
 ou 0 [(.pair (.pair (D.lst []) .unit) (.pair (.bool false) .unit))]
 else
 ou 0 [(.pair (gd o5.2 0) (.pair (.bool true) .unit))]) fun _ => none) fun _ => none) fun _ => none) := by kernel_rfl
theorem q_impl_within (a0 a1 a2 : D) : e_impl_within.F [a0, a1, a2] = rn (
 (if (decide (a0.i ≥ a1.i)) then
 ou 0 [(.bool (decide (a0.i ≤ a2.i)))]
 else
 ou 0 [(.bool false)]).bind fun o3 =>
 sel2 o3.1 (ou 0 [(gd o3.2 0)]) fun _ => none) := by kernel_rfl
theorem q_impl_isCounter (a0 : D) : e_impl_isCounter.F [a0] = rn (
 (e_impl_within.F [a0, (.int 0), (.int 1152921504606846976)]).bind fun r1 =>
 ou 0 [r1]) := by kernel_rfl
theorem q_impl_labelsOf (a0 : D) : e_impl_labelsOf.F [a0] = rn (
 if (a0.s == ([] : List UInt8)) then
 ou 0 [(D.lst [])]
 else
 (e_strings_Split.F [a0, (D.str [46])]).bind fun r1 =>
 ou 0 [r1]) := by kernel_rfl
theorem q_impl_isLabel (a0 : D) : e_impl_isLabel.F [a0] = rn (
 if (a0.s == ([42] : List UInt8)) then
 ou 0 [(.bool true)]
 else
 ((e_impl_within.F [(.int (a0.s.length : Int)), (.int 1), (.int 20)]).bind fun r1 =>
 if r1.b then
 (e_strings_Trim.F [a0, (D.str [97, 98, 99, 100, 101, 102, 103, 104, 105, 106, 107, 108, 109, 110, 111, 112, 113, 114, 115, 116, 117, 118, 119, 120, 121, 122, 48, 49, 50, 51, 52, 53, 54, 55, 56, 57, 45, 95])]).bind fun r2 =>
 ou 0 [(.bool (r2.s == ([] : List UInt8)))]
 else
 ou 0 [(.bool false)]).bind fun o1 =>
 sel2 o1.1 (ou 0 [(gd o1.2 0)]) fun _ => none) := by kernel_rfl
theorem q_impl_GoodName_1 (a0 : D) : e_impl_GoodName_1.F [a0] = rn (
 (e_impl_isLabel.F [a0]).bind fun r1 =>
 ou 0 [(.bool (!r1.b))]) := by kernel_rfl
theorem q_slices_IndexFunc_string_string__impl_GoodName_1 (a0 a1 : D) : e_slices_IndexFunc_string_string__impl_GoodName_1.F [a0, a1] = rn (
 (loopF (fun l2 =>
 if (decide ((gd l2 0).i < (a0.l.length : Int))) then
 if (inb (gd l2 0).i a0.l.length) then
 (e_impl_GoodName_1.F [(gd a0.l (gd l2 0).i.toNat)]).bind fun r3 =>
 if r3.b then
 ou 1 [(gd l2 0)]
 else
 ou 0 [(.int (IntKind.wrap .i64 ((gd l2 0).i + 1)))]
 else none
 else
 ou 2 []) [(.int 0)]).bind fun o2 =>
 sel2 o2.1 (ou 0 [(gd o2.2 0)]) fun n2 =>
 sel2 n2 (ou 0 [(.int (-1))]) fun _ => none) := by kernel_rfl
theorem q_slices_ContainsFunc_string_string__impl_GoodName_1 (a0 a1 : D) : e_slices_ContainsFunc_string_string__impl_GoodName_1.F [a0, a1] = rn (
 (e_slices_IndexFunc_string_string__impl_GoodName_1.F [a0, a1]).bind fun r2 =>
 ou 0 [(.bool (decide (r2.i ≥ 0)))]) := by kernel_rfl
theorem q_impl_GoodName (a0 : D) : e_impl_GoodName.F [a0] = rn (
 if (decide ((a0.s.length : Int) > 60)) then
 ou 0 [(.bool false)]
 else
 (e_impl_labelsOf.F [a0]).bind fun r1 =>
 (if (decide ((r1.l.length : Int) ≤ 8)) then
 (e_slices_ContainsFunc_string_string__impl_GoodName_1.F [r1, .unit]).bind fun r2 =>
 ou 0 [(.bool (!r2.b))]
 else
 ou 0 [(.bool false)]).bind fun o2 =>
 sel2 o2.1 (ou 0 [(gd o2.2 0)]) fun _ => none) := by kernel_rfl
theorem q_impl_isApex (a0 : D) : e_impl_isApex.F [a0] = rn (
 ((e_impl_GoodName.F [a0]).bind fun r1 =>
 if r1.b then
 (e_strings_Contains.F [a0, (D.str [42])]).bind fun r2 =>
 ou 0 [(.bool (!r2.b))]
 else
 ou 0 [(.bool false)]).bind fun o1 =>
 sel2 o1.1 (ou 0 [(gd o1.2 0)]) fun _ => none) := by kernel_rfl
theorem q_impl_numberIn (a0 a1 : D) : e_impl_numberIn.F [a0, a1] = rn (
 (e_strconv_Atoi.F [a0]).bind fun r2 =>
 (if (!(r2.fld 1).b) then
 (e_impl_within.F [(r2.fld 0), (.int 0), a1]).bind fun r3 =>
 if r3.b then
 (e_strconv_Itoa.F [(r2.fld 0)]).bind fun r4 =>
 ou 0 [(r2.fld 0), (.bool (r4.s == a0.s))]
 else
 ou 0 [(r2.fld 0), (.bool false)]
 else
 ou 0 [(r2.fld 0), (.bool false)]).bind fun o3 =>
 sel2 o3.1 (ou 0 [(.pair (gd o3.2 0) (.pair (gd o3.2 1) .unit))]) fun _ => none) := by kernel_rfl
theorem q_impl_big (a0 a1 : D) : e_impl_big.F [a0, a1] = rn (
 (loopF (fun l2 =>
 if (decide ((gd l2 1).i ≥ 0)) then
 if (decide (0 ≤ (IntKind.wrap .i64 (8 * (gd l2 1).i)))) then
 if (appOk 1 (gd l2 0).l ((.int (IntKind.wrap .u8 (a0.i.fdiv (2 ^ min (IntKind.wrap .i64 (8 * (gd l2 1).i)).toNat (IntKind.bits .i64))))) :: ([] : List D))) then
 ou 0 [(D.lst ((gd l2 0).l ++ ((.int (IntKind.wrap .u8 (a0.i.fdiv (2 ^ min (IntKind.wrap .i64 (8 * (gd l2 1).i)).toNat (IntKind.bits .i64))))) :: ([] : List D)))), (.int (IntKind.wrap .i64 ((gd l2 1).i - 1)))]
 else none
 else none
 else
 ou 1 [(gd l2 0)]) [(D.lst []), (.int (IntKind.wrap .i64 (a1.i - 1)))]).bind fun o2 =>
 sel2 o2.1 (ou 0 [(.str (bytesStr (gd o2.2 0).l))]) fun _ => none) := by kernel_rfl
theorem q_impl_isTarget (a0 : D) : e_impl_isTarget.F [a0] = rn (
 (if (!(a0.s == ([] : List UInt8))) then
 (e_impl_GoodName.F [a0]).bind fun r1 =>
 if r1.b then
 (e_strings_Contains.F [a0, (D.str [42])]).bind fun r2 =>
 ou 0 [(.bool (!r2.b))]
 else
 ou 0 [(.bool false)]
 else
 ou 0 [(.bool false)]).bind fun o1 =>
 sel2 o1.1 (ou 0 [(gd o1.2 0)]) fun _ => none) := by kernel_rfl
theorem q_impl_labelBytes (a0 : D) : e_impl_labelBytes.F [a0] = rn (
 (e_impl_labelsOf.F [a0]).bind fun r1 =>
 (loopF (fun l2 =>
 if (decide ((gd l2 1).i < (r1.l.length : Int))) then
 if (inb (gd l2 1).i r1.l.length) then
 if (catOk (bytesStr ((.int (IntKind.wrap .u8 ((gd r1.l (gd l2 1).i.toNat).s.length : Int))) :: ([] : List D))) (gd r1.l (gd l2 1).i.toNat).s) then
 if (catOk (gd l2 0).s ((bytesStr ((.int (IntKind.wrap .u8 ((gd r1.l (gd l2 1).i.toNat).s.length : Int))) :: ([] : List D))) ++ (gd r1.l (gd l2 1).i.toNat).s)) then
 ou 0 [(.str ((gd l2 0).s ++ ((bytesStr ((.int (IntKind.wrap .u8 ((gd r1.l (gd l2 1).i.toNat).s.length : Int))) :: ([] : List D))) ++ (gd r1.l (gd l2 1).i.toNat).s))), (.int (IntKind.wrap .i64 ((gd l2 1).i + 1)))]
 else none
 else none
 else none
 else
 ou 1 [(gd l2 0)]) [(D.str []), (.int 0)]).bind fun o2 =>
 sel2 o2.1 (ou 0 [(gd o2.2 0)]) fun _ => none) := by kernel_rfl
theorem q_impl_DataBytes_1 (a0 : D) : e_impl_DataBytes_1.F [a0] = rn (
 (if (decide (a0.i < 32)) then
 ou 0 [(.bool true)]
 else
 ou 0 [(.bool (decide (a0.i > 126)))]).bind fun o1 =>
 sel2 o1.1 (ou 0 [(gd o1.2 0)]) fun _ => none) := by kernel_rfl
theorem q_slices_IndexFunc_byte_byte__impl_DataBytes_1 (a0 a1 : D) : e_slices_IndexFunc_byte_byte__impl_DataBytes_1.F [a0, a1] = rn (
 (loopF (fun l2 =>
 if (decide ((gd l2 0).i < (a0.l.length : Int))) then
 if (inb (gd l2 0).i a0.l.length) then
 (e_impl_DataBytes_1.F [(gd a0.l (gd l2 0).i.toNat)]).bind fun r3 =>
 if r3.b then
 ou 1 [(gd l2 0)]
 else
 ou 0 [(.int (IntKind.wrap .i64 ((gd l2 0).i + 1)))]
 else none
 else
 ou 2 []) [(.int 0)]).bind fun o2 =>
 sel2 o2.1 (ou 0 [(gd o2.2 0)]) fun n2 =>
 sel2 n2 (ou 0 [(.int (-1))]) fun _ => none) := by kernel_rfl
theorem q_slices_ContainsFunc_byte_byte__impl_DataBytes_1 (a0 a1 : D) : e_slices_ContainsFunc_byte_byte__impl_DataBytes_1.F [a0, a1] = rn (
 (e_slices_IndexFunc_byte_byte__impl_DataBytes_1.F [a0, a1]).bind fun r2 =>
 ou 0 [(.bool (decide (r2.i ≥ 0)))]) := by kernel_rfl
theorem q_impl_DataBytes (a0 a1 : D) : e_impl_DataBytes.F [a0, a1] = rn (
 if (a0.i == 1) then
 (e_strings_Split.F [a1, (D.str [46])]).bind fun r2 =>
 (loopF (fun l3 =>
 if (decide ((gd l3 1).i < (r2.l.length : Int))) then
 if (inb (gd l3 1).i r2.l.length) then
 (e_impl_numberIn.F [(gd r2.l (gd l3 1).i.toNat), (.int 255)]).bind fun r5 =>
 (if (!(r5.fld 1).b) then
 ou 0 [(.bool true)]
 else
 ou 0 [(.bool ((r2.l.length : Int) != 4))]).bind fun o6 =>
 sel2 o6.1 (if (gd o6.2 0).b then
 ou 1 []
 else
 (e_impl_big.F [(r5.fld 0), (.int 1)]).bind fun r7 =>
 if (catOk (gd l3 0).s r7.s) then
 ou 0 [(.str ((gd l3 0).s ++ r7.s)), (.int (IntKind.wrap .i64 ((gd l3 1).i + 1)))]
 else none) fun _ => none
 else none
 else
 ou 2 [(gd l3 0)]) [(D.str []), (.int 0)]).bind fun o3 =>
 sel2 o3.1 (ou 0 [(.pair (D.str []) (.pair (.bool false) .unit))]) fun n4 =>
 sel2 n4 (ou 0 [(.pair (gd o3.2 0) (.pair (.bool true) .unit))]) fun _ => none
 else
 (if (a0.i == 2) then
 ou 0 [(.bool (a0.i == 2))]
 else
 ou 0 [(.bool (a0.i == 5))]).bind fun o2 =>
 sel2 o2.1 (if (gd o2.2 0).b then
 (e_impl_isTarget.F [a1]).bind fun r3 =>
 if (!r3.b) then
 ou 0 [(.pair (D.str []) (.pair (.bool false) .unit))]
 else
 (e_impl_labelBytes.F [a1]).bind fun r4 =>
 if (catOk r4.s ([0] : List UInt8)) then
 ou 0 [(.pair (.str (r4.s ++ ([0] : List UInt8))) (.pair (.bool true) .unit))]
 else none
 else
 if (a0.i == 6) then
 (e_impl_numberIn.F [a1, (.int 4294967295)]).bind fun r3 =>
 if (!(r3.fld 1).b) then
 ou 0 [(.pair (D.str []) (.pair (.bool false) .unit))]
 else
 (e_impl_big.F [(r3.fld 0), (.int 4)]).bind fun r4 =>
 ou 0 [(.pair r4 (.pair (.bool true) .unit))]
 else
 if (a0.i == 15) then
 (e_strings_Cut.F [a1, (D.str [32])]).bind fun r3 =>
 (e_impl_numberIn.F [(r3.fld 0), (.int 65535)]).bind fun r4 =>
 (if (!(r4.fld 1).b) then
 ou 0 [(.bool true)]
 else
 (e_impl_isTarget.F [(r3.fld 1)]).bind fun r5 =>
 ou 0 [(.bool (!r5.b))]).bind fun o5 =>
 sel2 o5.1 (if (gd o5.2 0).b then
 ou 0 [(.pair (D.str []) (.pair (.bool false) .unit))]
 else
 (e_impl_big.F [(r4.fld 0), (.int 2)]).bind fun r6 =>
 (e_impl_labelBytes.F [(r3.fld 1)]).bind fun r7 =>
 if (catOk r6.s r7.s) then
 if (catOk (r6.s ++ r7.s) ([0] : List UInt8)) then
 ou 0 [(.pair (.str ((r6.s ++ r7.s) ++ ([0] : List UInt8))) (.pair (.bool true) .unit))]
 else none
 else none) fun _ => none
 else
 if (a0.i == 16) then
 (if (decide ((a1.s.length : Int) > 30)) then
 ou 0 [(.bool true)]
 else
 (e_slices_ContainsFunc_byte_byte__impl_DataBytes_1.F [(D.lst (a1.s.map fun c => D.int c.toNat)), .unit]).bind fun r3 =>
 ou 0 [r3]).bind fun o3 =>
 sel2 o3.1 (if (gd o3.2 0).b then
 ou 0 [(.pair (D.str []) (.pair (.bool false) .unit))]
 else
 (e_impl_big.F [(.int (a1.s.length : Int)), (.int 1)]).bind fun r4 =>
 if (catOk r4.s a1.s) then
 ou 0 [(.pair (.str (r4.s ++ a1.s)) (.pair (.bool true) .unit))]
 else none) fun _ => none
 else
 ou 0 [(.pair (D.str []) (.pair (.bool false) .unit))]) fun _ => none) := by kernel_rfl
theorem q_impl_GoodRecord (a0 : D) : e_impl_GoodRecord.F [a0] = rn (
 ((e_impl_GoodName.F [(a0.fld 0)]).bind fun r1 =>
 if (!r1.b) then
 ou 0 [(.bool true)]
 else
 (e_impl_within.F [(a0.fld 2), (.int 0), (.int 100000)]).bind fun r2 =>
 if (!r2.b) then
 ou 0 [(.bool true)]
 else
 ou 0 [(.bool (decide (((a0.fld 3).s.length : Int) > 100)))]).bind fun o1 =>
 sel2 o1.1 (if (gd o1.2 0).b then
 ou 0 [(.bool false)]
 else
 (e_impl_DataBytes.F [(a0.fld 1), (a0.fld 3)]).bind fun r2 =>
 ou 0 [(r2.fld 1)]) fun _ => none) := by kernel_rfl
theorem q_slices_Reverse_string_string (a0 : D) : e_slices_Reverse_string_string.F [a0] = rn (
 (loopF (fun l1 =>
 if (decide ((gd l1 1).i < (gd l1 2).i)) then
 if (inb (gd l1 2).i (gd l1 0).l.length) then
 if (inb (gd l1 1).i (gd l1 0).l.length) then
 ou 0 [(D.lst (((gd l1 0).l.set (gd l1 1).i.toNat (gd (gd l1 0).l (gd l1 2).i.toNat)).set (gd l1 2).i.toNat (gd (gd l1 0).l (gd l1 1).i.toNat))), (.int (IntKind.wrap .i64 ((gd l1 1).i + 1))), (.int (IntKind.wrap .i64 ((gd l1 2).i - 1)))]
 else none
 else none
 else
 ou 1 [(gd l1 0)]) [a0, (.int 0), (.int (IntKind.wrap .i64 ((a0.l.length : Int) - 1)))]).bind fun o1 =>
 sel2 o1.1 (ou 0 [(.pair .unit (.pair (gd o1.2 0) .unit))]) fun _ => none) := by kernel_rfl
theorem q_cmp_isNaN_string (a0 : D) : e_cmp_isNaN_string.F [a0] = rn (
 ou 0 [(.bool (!(a0.s == a0.s)))]) := by kernel_rfl
theorem q_cmp_Compare_string (a0 a1 : D) : e_cmp_Compare_string.F [a0, a1] = rn (
 (e_cmp_isNaN_string.F [a0]).bind fun r2 =>
 (e_cmp_isNaN_string.F [a1]).bind fun r3 =>
 if r2.b then
 if r3.b then
 ou 0 [(.int 0)]
 else
 ou 0 [(.int (-1))]
 else
 if r3.b then
 ou 0 [(.int 1)]
 else
 if (Op.bytesLess a0.s a1.s) then
 ou 0 [(.int (-1))]
 else
 if (!(Op.bytesLess a0.s a1.s || a0.s == a1.s)) then
 ou 0 [(.int 1)]
 else
 ou 0 [(.int 0)]) := by kernel_rfl
theorem q_slices_Compare_string_string (a0 a1 : D) : e_slices_Compare_string_string.F [a0, a1] = rn (
 (loopF (fun l2 =>
 if (decide ((gd l2 0).i < (a0.l.length : Int))) then
 if (inb (gd l2 0).i a0.l.length) then
 if (decide ((gd l2 0).i ≥ (a1.l.length : Int))) then
 ou 1 [(.int 1)]
 else
 if (inb (gd l2 0).i a1.l.length) then
 (e_cmp_Compare_string.F [(gd a0.l (gd l2 0).i.toNat), (gd a1.l (gd l2 0).i.toNat)]).bind fun r3 =>
 if (r3.i != 0) then
 ou 1 [r3]
 else
 ou 0 [(.int (IntKind.wrap .i64 ((gd l2 0).i + 1)))]
 else none
 else none
 else
 ou 2 []) [(.int 0)]).bind fun o2 =>
 sel2 o2.1 (ou 0 [(gd o2.2 0)]) fun n2 =>
 sel2 n2 (if (decide ((a0.l.length : Int) < (a1.l.length : Int))) then
 ou 0 [(.int (-1))]
 else
 ou 0 [(.int 0)]) fun _ => none) := by kernel_rfl
theorem q_impl_compareNames (a0 a1 : D) : e_impl_compareNames.F [a0, a1] = rn (
 (e_impl_labelsOf.F [a0]).bind fun r2 =>
 (e_impl_labelsOf.F [a1]).bind fun r3 =>
 (e_slices_Reverse_string_string.F [r2]).bind fun r4 =>
 (e_slices_Reverse_string_string.F [r3]).bind fun r5 =>
 (e_slices_Compare_string_string.F [(r4.fld 1), (r5.fld 1)]).bind fun r6 =>
 ou 0 [r6]) := by kernel_rfl
theorem q_cmp_isNaN_int (a0 : D) : e_cmp_isNaN_int.F [a0] = rn (
 ou 0 [(.bool (a0.i != a0.i))]) := by kernel_rfl
theorem q_cmp_Compare_int (a0 a1 : D) : e_cmp_Compare_int.F [a0, a1] = rn (
 (e_cmp_isNaN_int.F [a0]).bind fun r2 =>
 (e_cmp_isNaN_int.F [a1]).bind fun r3 =>
 if r2.b then
 if r3.b then
 ou 0 [(.int 0)]
 else
 ou 0 [(.int (-1))]
 else
 if r3.b then
 ou 0 [(.int 1)]
 else
 if (decide (a0.i < a1.i)) then
 ou 0 [(.int (-1))]
 else
 if (decide (a0.i > a1.i)) then
 ou 0 [(.int 1)]
 else
 ou 0 [(.int 0)]) := by kernel_rfl
theorem q_cmp_Or_int (a0 : D) : e_cmp_Or_int.F [a0] = rn (
 (loopF (fun l1 =>
 if (decide ((gd l1 0).i < (a0.l.length : Int))) then
 if (inb (gd l1 0).i a0.l.length) then
 if ((gd a0.l (gd l1 0).i.toNat).i != 0) then
 ou 1 [(gd a0.l (gd l1 0).i.toNat)]
 else
 ou 0 [(.int (IntKind.wrap .i64 ((gd l1 0).i + 1)))]
 else none
 else
 ou 2 []) [(.int 0)]).bind fun o1 =>
 sel2 o1.1 (ou 0 [(gd o1.2 0)]) fun n2 =>
 sel2 n2 (ou 0 [(.int 0)]) fun _ => none) := by kernel_rfl
theorem q_impl_compareKeys (a0 a1 : D) : e_impl_compareKeys.F [a0, a1] = rn (
 (e_impl_compareNames.F [(a0.fld 0), (a1.fld 0)]).bind fun r2 =>
 (e_cmp_Compare_int.F [(a0.fld 1), (a1.fld 1)]).bind fun r3 =>
 (e_cmp_Or_int.F [(D.lst (r2 :: (r3 :: ([] : List D))))]).bind fun r4 =>
 ou 0 [r4]) := by kernel_rfl
theorem q_impl_dataBytes (a0 a1 : D) : e_impl_dataBytes.F [a0, a1] = rn (
 (e_impl_DataBytes.F [a0, a1]).bind fun r2 =>
 if (!(r2.fld 1).b) then
 ou 0 [(D.str [])]
 else
 ou 0 [(r2.fld 0)]) := by kernel_rfl
theorem q_impl_compareRecords (a0 a1 : D) : e_impl_compareRecords.F [a0, a1] = rn (
 (e_impl_compareKeys.F [a0, a1]).bind fun r2 =>
 (e_impl_dataBytes.F [(a0.fld 1), (a0.fld 3)]).bind fun r3 =>
 (e_impl_dataBytes.F [(a1.fld 1), (a1.fld 3)]).bind fun r4 =>
 (e_strings_Compare.F [r3, r4]).bind fun r5 =>
 (e_cmp_Compare_int.F [(a0.fld 2), (a1.fld 2)]).bind fun r6 =>
 (e_cmp_Or_int.F [(D.lst (r2 :: (r5 :: (r6 :: ([] : List D)))))]).bind fun r7 =>
 ou 0 [r7]) := by kernel_rfl
theorem q_impl_areRising (a0 : D) : e_impl_areRising.F [a0] = rn (
 (loopF (fun l1 =>
 if (decide ((gd l1 0).i < (a0.l.length : Int))) then
 if (inb (gd l1 0).i a0.l.length) then
 ((e_impl_GoodRecord.F [(gd a0.l (gd l1 0).i.toNat)]).bind fun r2 =>
 if (!r2.b) then
 ou 0 [(.bool true)]
 else
 if (decide ((gd l1 0).i > 0)) then
 if (inb (IntKind.wrap .i64 ((gd l1 0).i - 1)) a0.l.length) then
 (e_impl_compareRecords.F [(gd a0.l (IntKind.wrap .i64 ((gd l1 0).i - 1)).toNat), (gd a0.l (gd l1 0).i.toNat)]).bind fun r3 =>
 ou 0 [(.bool (decide (r3.i ≥ 0)))]
 else none
 else
 ou 0 [(.bool false)]).bind fun o2 =>
 sel2 o2.1 (if (gd o2.2 0).b then
 ou 1 []
 else
 ou 0 [(.int (IntKind.wrap .i64 ((gd l1 0).i + 1)))]) fun _ => none
 else none
 else
 ou 2 []) [(.int 0)]).bind fun o1 =>
 sel2 o1.1 (ou 0 [(.bool false)]) fun n2 =>
 sel2 n2 (ou 0 [(.bool true)]) fun _ => none) := by kernel_rfl
theorem q_impl_isWhole (a0 a1 : D) : e_impl_isWhole.F [a0, a1] = rn (
 ((e_impl_isApex.F [a0]).bind fun r2 =>
 if r2.b then
 if (decide ((a1.l.length : Int) ≤ 40)) then
 (e_impl_areRising.F [a1]).bind fun r3 =>
 ou 0 [r3]
 else
 ou 0 [(.bool false)]
 else
 ou 0 [(.bool false)]).bind fun o2 =>
 sel2 o2.1 (ou 0 [(gd o2.2 0)]) fun _ => none) := by kernel_rfl
theorem q_internal_stringslite_HasSuffix (a0 a1 : D) : e_internal_stringslite_HasSuffix.F [a0, a1] = rn (
 (if (decide ((a0.s.length : Int) ≥ (a1.s.length : Int))) then
 if (slOk (IntKind.wrap .i64 ((a0.s.length : Int) - (a1.s.length : Int))) (a0.s.length : Int) (a0.s.length : Int)) then
 ou 0 [(.bool (((a0.s.take (a0.s.length : Int).toNat).drop (IntKind.wrap .i64 ((a0.s.length : Int) - (a1.s.length : Int))).toNat) == a1.s))]
 else none
 else
 ou 0 [(.bool false)]).bind fun o2 =>
 sel2 o2.1 (ou 0 [(gd o2.2 0)]) fun _ => none) := by kernel_rfl
theorem q_strings_HasSuffix (a0 a1 : D) : e_strings_HasSuffix.F [a0, a1] = rn (
 (e_internal_stringslite_HasSuffix.F [a0, a1]).bind fun r2 =>
 ou 0 [r2]) := by kernel_rfl
theorem q_impl_isBelow (a0 a1 : D) : e_impl_isBelow.F [a0, a1] = rn (
 (if (a0.s == a1.s) then
 ou 0 [(.bool true)]
 else
 if (a1.s == ([] : List UInt8)) then
 ou 0 [(.bool true)]
 else
 if (catOk ([46] : List UInt8) a1.s) then
 (e_strings_HasSuffix.F [a0, (.str (([46] : List UInt8) ++ a1.s))]).bind fun r2 =>
 ou 0 [r2]
 else none).bind fun o2 =>
 sel2 o2.1 (ou 0 [(gd o2.2 0)]) fun _ => none) := by kernel_rfl
theorem q_impl_at (a0 a1 a2 : D) : e_impl_at.F [a0, a1, a2] = rn (
 (loopF (fun l3 =>
 if (decide ((gd l3 1).i < (a0.l.length : Int))) then
 (if (inb (gd l3 1).i a0.l.length) then
 (if (((gd a0.l (gd l3 1).i.toNat).fld 0).s == a1.s) then
 if (a2.i == 0) then
 ou 0 [(.bool true)]
 else
 ou 0 [(.bool (((gd a0.l (gd l3 1).i.toNat).fld 1).i == a2.i))]
 else
 ou 0 [(.bool false)]).bind fun o5 =>
 sel2 o5.1 (if (gd o5.2 0).b then
 if (appOk 48 (gd l3 0).l ((gd a0.l (gd l3 1).i.toNat) :: ([] : List D))) then
 ou 0 [(D.lst ((gd l3 0).l ++ ((gd a0.l (gd l3 1).i.toNat) :: ([] : List D))))]
 else none
 else
 ou 0 [(gd l3 0)]) fun _ => none
 else none).bind fun o5 =>
 sel2 o5.1 (ou 0 [(gd o5.2 0), (.int (IntKind.wrap .i64 ((gd l3 1).i + 1)))]) fun _ => none
 else
 ou 1 [(gd l3 0)]) [(D.lst []), (.int 0)]).bind fun o3 =>
 sel2 o3.1 (ou 0 [(gd o3.2 0)]) fun _ => none) := by kernel_rfl
theorem q_impl_breaks_1 (a0 a1 : D) : e_impl_breaks_1.F [a0, a1] = rn (
 (if ((a0.fld 2).i != (a1.fld 2).i) then
 ou 0 [(.bool true)]
 else
 if ((a0.fld 3).s == (a1.fld 3).s) then
 ou 0 [(.bool (!(D.beq a0 a1)))]
 else
 ou 0 [(.bool false)]).bind fun o2 =>
 sel2 o2.1 (ou 0 [(gd o2.2 0)]) fun _ => none) := by kernel_rfl
theorem q_slices_IndexFunc_impl_Record_impl_Record__impl_breaks_1 (a0 a1 : D) : e_slices_IndexFunc_impl_Record_impl_Record__impl_breaks_1.F [a0, a1] = rn (
 (loopF (fun l2 =>
 if (decide ((gd l2 0).i < (a0.l.length : Int))) then
 if (inb (gd l2 0).i a0.l.length) then
 (e_impl_breaks_1.F [(gd a0.l (gd l2 0).i.toNat), (a1.fld 0)]).bind fun r3 =>
 if r3.b then
 ou 1 [(gd l2 0)]
 else
 ou 0 [(.int (IntKind.wrap .i64 ((gd l2 0).i + 1)))]
 else none
 else
 ou 2 []) [(.int 0)]).bind fun o2 =>
 sel2 o2.1 (ou 0 [(gd o2.2 0)]) fun n2 =>
 sel2 n2 (ou 0 [(.int (-1))]) fun _ => none) := by kernel_rfl
theorem q_slices_ContainsFunc_impl_Record_impl_Record__impl_breaks_1 (a0 a1 : D) : e_slices_ContainsFunc_impl_Record_impl_Record__impl_breaks_1.F [a0, a1] = rn (
 (e_slices_IndexFunc_impl_Record_impl_Record__impl_breaks_1.F [a0, a1]).bind fun r2 =>
 ou 0 [(.bool (decide (r2.i ≥ 0)))]) := by kernel_rfl
theorem q_impl_breaks_2 (a0 a1 a2 : D) : e_impl_breaks_2.F [a0, a1, a2] = rn (
 (if ((a0.fld 1).i == 2) then
 if (!((a0.fld 0).s == a1.s)) then
 (e_impl_isBelow.F [(a2.fld 0), (a0.fld 0)]).bind fun r3 =>
 ou 0 [r3]
 else
 ou 0 [(.bool false)]
 else
 ou 0 [(.bool false)]).bind fun o3 =>
 sel2 o3.1 ((if (gd o3.2 0).b then
 if ((a2.fld 1).i != 1) then
 if ((a2.fld 1).i == 2) then
 ou 0 [(.bool (!((a2.fld 0).s == (a0.fld 0).s)))]
 else
 ou 0 [(.bool (!false))]
 else
 ou 0 [(.bool false)]
 else
 ou 0 [(.bool false)]).bind fun o4 =>
 sel2 o4.1 (ou 0 [(gd o4.2 0)]) fun _ => none) fun _ => none) := by kernel_rfl
theorem q_slices_IndexFunc_impl_Record_impl_Record__impl_breaks_2 (a0 a1 : D) : e_slices_IndexFunc_impl_Record_impl_Record__impl_breaks_2.F [a0, a1] = rn (
 (loopF (fun l2 =>
 if (decide ((gd l2 0).i < (a0.l.length : Int))) then
 if (inb (gd l2 0).i a0.l.length) then
 (e_impl_breaks_2.F [(gd a0.l (gd l2 0).i.toNat), (a1.fld 0), (a1.fld 1)]).bind fun r3 =>
 if r3.b then
 ou 1 [(gd l2 0)]
 else
 ou 0 [(.int (IntKind.wrap .i64 ((gd l2 0).i + 1)))]
 else none
 else
 ou 2 []) [(.int 0)]).bind fun o2 =>
 sel2 o2.1 (ou 0 [(gd o2.2 0)]) fun n2 =>
 sel2 n2 (ou 0 [(.int (-1))]) fun _ => none) := by kernel_rfl
theorem q_slices_ContainsFunc_impl_Record_impl_Record__impl_breaks_2 (a0 a1 : D) : e_slices_ContainsFunc_impl_Record_impl_Record__impl_breaks_2.F [a0, a1] = rn (
 (e_slices_IndexFunc_impl_Record_impl_Record__impl_breaks_2.F [a0, a1]).bind fun r2 =>
 ou 0 [(.bool (decide (r2.i ≥ 0)))]) := by kernel_rfl
theorem q_impl_breaks (a0 a1 a2 a3 : D) : e_impl_breaks.F [a0, a1, a2, a3] = rn (
 if (a3.i == 1) then
 (e_impl_isBelow.F [(a2.fld 0), a0]).bind fun r4 =>
 ou 0 [(.bool (!r4.b))]
 else
 if (a3.i == 2) then
 (if ((a2.fld 1).i == 6) then
 ou 0 [(.bool (!((a2.fld 0).s == a0.s)))]
 else
 ou 0 [(.bool false)]).bind fun o4 =>
 sel2 o4.1 (ou 0 [(gd o4.2 0)]) fun _ => none
 else
 if (a3.i == 3) then
 (e_impl_at.F [a1, (a2.fld 0), (a2.fld 1)]).bind fun r4 =>
 (e_slices_ContainsFunc_impl_Record_impl_Record__impl_breaks_1.F [r4, (.pair a2 .unit)]).bind fun r5 =>
 ou 0 [r5]
 else
 if (a3.i == 4) then
 (if ((a2.fld 1).i == 5) then
 (e_impl_at.F [a1, (a2.fld 0), (.int 0)]).bind fun r4 =>
 ou 0 [(.bool (decide ((r4.l.length : Int) > 1)))]
 else
 ou 0 [(.bool false)]).bind fun o4 =>
 sel2 o4.1 (ou 0 [(gd o4.2 0)]) fun _ => none
 else
 if (a3.i == 5) then
 (if ((a2.fld 1).i == 5) then
 ou 0 [(.bool ((a2.fld 0).s == a0.s))]
 else
 ou 0 [(.bool false)]).bind fun o4 =>
 sel2 o4.1 (ou 0 [(gd o4.2 0)]) fun _ => none
 else
 (e_slices_ContainsFunc_impl_Record_impl_Record__impl_breaks_2.F [a1, (.pair a0 (.pair a2 .unit))]).bind fun r4 =>
 ou 0 [r4]) := by kernel_rfl
theorem q_impl_RuleOf_1 (a0 a1 a2 a3 : D) : e_impl_RuleOf_1.F [a0, a1, a2, a3] = rn (
 (e_impl_breaks.F [a1, a2, a0, a3]).bind fun r4 =>
 ou 0 [r4]) := by kernel_rfl
theorem q_slices_IndexFunc_impl_Record_impl_Record__impl_RuleOf_1 (a0 a1 : D) : e_slices_IndexFunc_impl_Record_impl_Record__impl_RuleOf_1.F [a0, a1] = rn (
 (loopF (fun l2 =>
 if (decide ((gd l2 0).i < (a0.l.length : Int))) then
 if (inb (gd l2 0).i a0.l.length) then
 (e_impl_RuleOf_1.F [(gd a0.l (gd l2 0).i.toNat), (a1.fld 0), (a1.fld 1), (a1.fld 2)]).bind fun r3 =>
 if r3.b then
 ou 1 [(gd l2 0)]
 else
 ou 0 [(.int (IntKind.wrap .i64 ((gd l2 0).i + 1)))]
 else none
 else
 ou 2 []) [(.int 0)]).bind fun o2 =>
 sel2 o2.1 (ou 0 [(gd o2.2 0)]) fun n2 =>
 sel2 n2 (ou 0 [(.int (-1))]) fun _ => none) := by kernel_rfl
theorem q_slices_ContainsFunc_impl_Record_impl_Record__impl_RuleOf_1 (a0 a1 : D) : e_slices_ContainsFunc_impl_Record_impl_Record__impl_RuleOf_1.F [a0, a1] = rn (
 (e_slices_IndexFunc_impl_Record_impl_Record__impl_RuleOf_1.F [a0, a1]).bind fun r2 =>
 ou 0 [(.bool (decide (r2.i ≥ 0)))]) := by kernel_rfl
theorem q_impl_RuleOf (a0 a1 : D) : e_impl_RuleOf.F [a0, a1] = rn (
 (e_impl_isWhole.F [a0, a1]).bind fun r2 =>
 if (!r2.b) then
 ou 0 [(.int 9)]
 else
 (loopF (fun l3 =>
 if (decide ((gd l3 0).i ≤ 6)) then
 ((e_slices_ContainsFunc_impl_Record_impl_Record__impl_RuleOf_1.F [a1, (.pair a0 (.pair a1 (.pair (gd l3 0) .unit)))]).bind fun r4 =>
 if r4.b then
 ou 0 [(.bool true)]
 else
 if ((gd l3 0).i == 2) then
 (e_impl_at.F [a1, a0, (.int 6)]).bind fun r5 =>
 ou 0 [(.bool ((r5.l.length : Int) != 1))]
 else
 ou 0 [(.bool false)]).bind fun o4 =>
 sel2 o4.1 (if (gd o4.2 0).b then
 ou 1 [(gd l3 0)]
 else
 ou 0 [(.int (IntKind.wrap .i64 ((gd l3 0).i + 1)))]) fun _ => none
 else
 ou 2 []) [(.int 1)]).bind fun o3 =>
 sel2 o3.1 (ou 0 [(gd o3.2 0)]) fun n4 =>
 sel2 n4 (ou 0 [(.int 0)]) fun _ => none) := by kernel_rfl
theorem q_impl_serialText (a0 : D) : e_impl_serialText.F [a0] = rn (
 if (4294967296 != 0) then
 (e_strconv_Itoa.F [(.int (a0.i.tmod 4294967296))]).bind fun r1 =>
 ou 0 [r1]
 else none) := by kernel_rfl
theorem q_impl_GoodZone (a0 : D) : e_impl_GoodZone.F [a0] = rn (
 ((e_impl_isCounter.F [(a0.fld 1)]).bind fun r1 =>
 if r1.b then
 (e_impl_RuleOf.F [(a0.fld 0), (a0.fld 2)]).bind fun r2 =>
 if (r2.i == 0) then
 (e_impl_at.F [(a0.fld 2), (a0.fld 0), (.int 6)]).bind fun r3 =>
 if (inb 0 r3.l.length) then
 (e_impl_serialText.F [(a0.fld 1)]).bind fun r4 =>
 ou 0 [(.bool (((gd r3.l 0).fld 3).s == r4.s))]
 else none
 else
 ou 0 [(.bool false)]
 else
 ou 0 [(.bool false)]).bind fun o1 =>
 sel2 o1.1 (ou 0 [(gd o1.2 0)]) fun _ => none) := by kernel_rfl
theorem q_impl_GoodWorld (a0 : D) : e_impl_GoodWorld.F [a0] = rn (
 ((e_impl_within.F [(.int ((a0.fld 0).l.length : Int)), (.int 1), (.int 6)]).bind fun r1 =>
 if (!r1.b) then
 ou 0 [(.bool true)]
 else
 if (inb 0 (a0.fld 0).l.length) then
 ou 0 [(.bool (!(((gd (a0.fld 0).l 0).fld 0).s == ([] : List UInt8))))]
 else none).bind fun o1 =>
 sel2 o1.1 (if (gd o1.2 0).b then
 ou 0 [(.bool false)]
 else
 (loopF (fun l2 =>
 if (decide ((gd l2 0).i < ((a0.fld 0).l.length : Int))) then
 if (inb (gd l2 0).i (a0.fld 0).l.length) then
 ((e_impl_GoodZone.F [(gd (a0.fld 0).l (gd l2 0).i.toNat)]).bind fun r3 =>
 if (!r3.b) then
 ou 0 [(.bool true)]
 else
 if (decide ((gd l2 0).i > 0)) then
 if (inb (IntKind.wrap .i64 ((gd l2 0).i - 1)) (a0.fld 0).l.length) then
 (e_impl_compareNames.F [((gd (a0.fld 0).l (IntKind.wrap .i64 ((gd l2 0).i - 1)).toNat).fld 0), ((gd (a0.fld 0).l (gd l2 0).i.toNat).fld 0)]).bind fun r4 =>
 ou 0 [(.bool (decide (r4.i ≥ 0)))]
 else none
 else
 ou 0 [(.bool false)]).bind fun o3 =>
 sel2 o3.1 (if (gd o3.2 0).b then
 ou 1 [(.bool false)]
 else
 ou 0 [(.int (IntKind.wrap .i64 ((gd l2 0).i + 1)))]) fun _ => none
 else none
 else
 ou 2 []) [(.int 0)]).bind fun o2 =>
 sel2 o2.1 (ou 0 [(gd o2.2 0)]) fun n6 =>
 sel2 n6 (ou 0 [(.bool true)]) fun _ => none) fun _ => none) := by kernel_rfl
theorem q_impl_World_find_1 (a0 a1 : D) : e_impl_World_find_1.F [a0, a1] = rn (
 (e_impl_compareNames.F [(a0.fld 0), a1]).bind fun r2 =>
 ou 0 [r2]) := by kernel_rfl
theorem q_slices_BinarySearchFunc_impl_Zone_impl_Zone_string__impl_World_find_1 (a0 a1 a2 : D) : e_slices_BinarySearchFunc_impl_Zone_impl_Zone_string__impl_World_find_1.F [a0, a1, a2] = rn (
 (loopF (fun l3 =>
 if (decide ((gd l3 0).i < (gd l3 1).i)) then
 if (decide (0 ≤ 1)) then
 if (inb (IntKind.wrap .i64 ((IntKind.wrap .u64 (IntKind.wrap .i64 ((gd l3 0).i + (gd l3 1).i))).fdiv (2 ^ min 1 (IntKind.bits .u64)))) a0.l.length) then
 (e_impl_World_find_1.F [(gd a0.l (IntKind.wrap .i64 ((IntKind.wrap .u64 (IntKind.wrap .i64 ((gd l3 0).i + (gd l3 1).i))).fdiv (2 ^ min 1 (IntKind.bits .u64)))).toNat), a1]).bind fun r5 =>
 if (decide (r5.i < 0)) then
 ou 0 [(.int (IntKind.wrap .i64 ((IntKind.wrap .i64 ((IntKind.wrap .u64 (IntKind.wrap .i64 ((gd l3 0).i + (gd l3 1).i))).fdiv (2 ^ min 1 (IntKind.bits .u64)))) + 1))), (gd l3 1)]
 else
 ou 0 [(gd l3 0), (.int (IntKind.wrap .i64 ((IntKind.wrap .u64 (IntKind.wrap .i64 ((gd l3 0).i + (gd l3 1).i))).fdiv (2 ^ min 1 (IntKind.bits .u64)))))]
 else none
 else none
 else
 ou 1 [(gd l3 0)]) [(.int 0), (.int (a0.l.length : Int))]).bind fun o3 =>
 sel2 o3.1 ((if (decide ((gd o3.2 0).i < (a0.l.length : Int))) then
 if (inb (gd o3.2 0).i a0.l.length) then
 (e_impl_World_find_1.F [(gd a0.l (gd o3.2 0).i.toNat), a1]).bind fun r4 =>
 ou 0 [(gd o3.2 0), (.bool (r4.i == 0))]
 else none
 else
 ou 0 [(gd o3.2 0), (.bool false)]).bind fun o4 =>
 sel2 o4.1 (ou 0 [(.pair (gd o4.2 0) (.pair (gd o4.2 1) .unit))]) fun _ => none) fun _ => none) := by kernel_rfl
theorem q_impl_World_find (a0 a1 : D) : e_impl_World_find.F [a0, a1] = rn (
 (e_slices_BinarySearchFunc_impl_Zone_impl_Zone_string__impl_World_find_1.F [(a0.fld 0), a1, .unit]).bind fun r2 =>
 ou 0 [(.pair (r2.fld 0) (.pair (r2.fld 1) .unit))]) := by kernel_rfl
theorem q_slices_Clone_impl_Zone_impl_Zone (a0 : D) : e_slices_Clone_impl_Zone_impl_Zone.F [a0] = rn (
 two a0.l.isEmpty
 (ou 0 [(D.lst [])])
 (if (appOk 48 ([] : List D) a0.l) then
 ou 0 [(D.lst (([] : List D) ++ a0.l))]
 else none)) := by kernel_rfl
theorem q_slices_Clone_impl_Record_impl_Record (a0 : D) : e_slices_Clone_impl_Record_impl_Record.F [a0] = rn (
 two a0.l.isEmpty
 (ou 0 [(D.lst [])])
 (if (appOk 48 ([] : List D) a0.l) then
 ou 0 [(D.lst (([] : List D) ++ a0.l))]
 else none)) := by kernel_rfl
theorem q_impl_ownZone (a0 : D) : e_impl_ownZone.F [a0] = rn (
 (e_slices_Clone_impl_Record_impl_Record.F [(a0.fld 2)]).bind fun r1 =>
 ou 0 [(a0.setFld 2 r1)]) := by kernel_rfl
theorem q_impl_AddZone (a0 a1 : D) : e_impl_AddZone.F [a0, a1] = rn (
 ((e_impl_GoodWorld.F [a0]).bind fun r2 =>
 if (!r2.b) then
 ou 0 [(.bool true)]
 else
 (e_impl_GoodZone.F [a1]).bind fun r3 =>
 ou 0 [(.bool (!r3.b))]).bind fun o2 =>
 sel2 o2.1 (if (gd o2.2 0).b then
 ou 0 [(.pair (.pair (D.lst []) .unit) (.pair (.bool false) .unit))]
 else
 (e_impl_World_find.F [a0, (a1.fld 0)]).bind fun r3 =>
 if (r3.fld 1).b then
 ou 0 [(.pair (.pair (D.lst []) .unit) (.pair (.bool false) .unit))]
 else
 (e_slices_Clone_impl_Zone_impl_Zone.F [(a0.fld 0)]).bind fun r4 =>
 (e_slices_Insert_impl_Zone_impl_Zone.F [r4, (r3.fld 0), (D.lst (a1 :: ([] : List D)))]).bind fun r5 =>
 (loopF (fun l6 =>
 if (decide ((gd l6 1).i < (r5.l.length : Int))) then
 if (inb (gd l6 1).i r5.l.length) then
 (e_impl_ownZone.F [(gd r5.l (gd l6 1).i.toNat)]).bind fun r8 =>
 if (appOk 48 ((gd l6 0).fld 0).l (r8 :: ([] : List D))) then
 ou 0 [((gd l6 0).setFld 0 (D.lst (((gd l6 0).fld 0).l ++ (r8 :: ([] : List D))))), (.int (IntKind.wrap .i64 ((gd l6 1).i + 1)))]
 else none
 else none
 else
 ou 1 [(gd l6 0)]) [(.pair (D.lst []) .unit), (.int 0)]).bind fun o6 =>
 sel2 o6.1 ((e_impl_GoodWorld.F [(gd o6.2 0)]).bind fun r7 =>
 if (!r7.b) then
 ou 0 [(.pair (.pair (D.lst []) .unit) (.pair (.bool false) .unit))]
 else
 ou 0 [(.pair (gd o6.2 0) (.pair (.bool true) .unit))]) fun _ => none) fun _ => none) := by kernel_rfl
theorem q_spec_NewZone (a0 : D) : e_spec_NewZone.F [a0] = rn (
 (e_spec_l6Apex.F [a0]).bind fun r1 =>
 if (!r1.b) then
 ou 0 [(.pair (.pair (.str []) (.pair (.int 0) (.pair (D.lst []) .unit))) (.pair (.bool false) .unit))]
 else
 ou 0 [(.pair (.pair a0 (.pair (.int 0) (.pair (D.lst ((.pair a0 (.pair (.int 6) (.pair (.int 60) (.pair (D.str [48]) .unit)))) :: ([] : List D))) .unit))) (.pair (.bool true) .unit))]) := by kernel_rfl
theorem q_spec_l11Delegates (a0 a1 : D) : e_spec_l11Delegates.F [a0, a1] = rn (
 ou 0 [(D.lst ((.pair (.int 1) (.pair (.pair a0 (.pair (.int 2) (.pair (.int 60) (.pair a1 .unit)))) .unit)) :: ([] : List D)))]) := by kernel_rfl
theorem q_spec_l6Batch (a0 : D) : e_spec_l6Batch.F [a0] = rn (
 (loopF (fun l1 =>
 if (decide ((gd l1 0).i < (a0.l.length : Int))) then
 if (inb (gd l1 0).i a0.l.length) then
 ((e_spec_l1In.F [((gd a0.l (gd l1 0).i.toNat).fld 0), (.int 1), (.int 4)]).bind fun r2 =>
 if (!r2.b) then
 ou 0 [(.bool true)]
 else
 (e_spec_GoodRecord.F [((gd a0.l (gd l1 0).i.toNat).fld 1)]).bind fun r3 =>
 if (!r3.b) then
 ou 0 [(.bool true)]
 else
 ou 0 [(.bool ((((gd a0.l (gd l1 0).i.toNat).fld 1).fld 1).i == 6))]).bind fun o2 =>
 sel2 o2.1 (if (gd o2.2 0).b then
 ou 1 []
 else
 ou 0 [(.int (IntKind.wrap .i64 ((gd l1 0).i + 1)))]) fun _ => none
 else none
 else
 ou 2 []) [(.int 0)]).bind fun o1 =>
 sel2 o1.1 (ou 0 [(.bool false)]) fun n2 =>
 sel2 n2 (ou 0 [(.bool (decide ((a0.l.length : Int) ≤ 12)))]) fun _ => none) := by kernel_rfl
theorem q_spec_l6Drop (a0 a1 : D) : e_spec_l6Drop.F [a0, a1] = rn (
 (loopF (fun l2 =>
 if (decide ((gd l2 1).i < (a0.l.length : Int))) then
 (if (inb (gd l2 1).i a0.l.length) then
 (if (!(((gd a0.l (gd l2 1).i.toNat).fld 0).s == (a1.fld 0).s)) then
 ou 0 [(.bool true)]
 else
 if (((gd a0.l (gd l2 1).i.toNat).fld 1).i != (a1.fld 1).i) then
 ou 0 [(.bool true)]
 else
 ou 0 [(.bool (!(((gd a0.l (gd l2 1).i.toNat).fld 3).s == (a1.fld 3).s)))]).bind fun o4 =>
 sel2 o4.1 (if (gd o4.2 0).b then
 if (appOk 48 (gd l2 0).l ((gd a0.l (gd l2 1).i.toNat) :: ([] : List D))) then
 ou 0 [(D.lst ((gd l2 0).l ++ ((gd a0.l (gd l2 1).i.toNat) :: ([] : List D))))]
 else none
 else
 ou 0 [(gd l2 0)]) fun _ => none
 else none).bind fun o4 =>
 sel2 o4.1 (ou 0 [(gd o4.2 0), (.int (IntKind.wrap .i64 ((gd l2 1).i + 1)))]) fun _ => none
 else
 ou 1 [(gd l2 0)]) [(D.lst []), (.int 0)]).bind fun o2 =>
 sel2 o2.1 (ou 0 [(gd o2.2 0)]) fun _ => none) := by kernel_rfl
theorem q_spec_l3Put (a0 a1 : D) : e_spec_l3Put.F [a0, a1] = rn (
 (loopF (fun l2 =>
 (if (decide ((gd l2 0).i < (a0.l.length : Int))) then
 if (inb (gd l2 0).i a0.l.length) then
 (e_spec_l3Compare.F [(gd a0.l (gd l2 0).i.toNat), a1]).bind fun r3 =>
 ou 0 [(.bool (decide (r3.i < 0)))]
 else none
 else
 ou 0 [(.bool false)]).bind fun o3 =>
 sel2 o3.1 (if (gd o3.2 0).b then
 ou 0 [(.int (IntKind.wrap .i64 ((gd l2 0).i + 1)))]
 else
 ou 1 [(gd l2 0)]) fun _ => none) [(.int 0)]).bind fun o2 =>
 sel2 o2.1 ((if (decide ((gd o2.2 0).i < (a0.l.length : Int))) then
 if (inb (gd o2.2 0).i a0.l.length) then
 ou 0 [(.bool (D.beq (gd a0.l (gd o2.2 0).i.toNat) a1))]
 else none
 else
 ou 0 [(.bool false)]).bind fun o3 =>
 sel2 o3.1 (if (gd o3.2 0).b then
 ou 0 [a0]
 else
 if (slOk 0 (gd o2.2 0).i (a0.l.length : Int)) then
 if (appOk 48 ([] : List D) ((a0.l.drop 0).take (((gd o2.2 0).i.toNat - 0 : Nat) : Int).toNat)) then
 if (appOk 48 (([] : List D) ++ ((a0.l.drop 0).take (((gd o2.2 0).i.toNat - 0 : Nat) : Int).toNat)) (a1 :: ([] : List D))) then
 if (slOk (gd o2.2 0).i (a0.l.length : Int) (a0.l.length : Int)) then
 if (appOk 48 ((([] : List D) ++ ((a0.l.drop 0).take (((gd o2.2 0).i.toNat - 0 : Nat) : Int).toNat)) ++ (a1 :: ([] : List D))) ((a0.l.drop (gd o2.2 0).i.toNat).take (((a0.l.length : Int).toNat - (gd o2.2 0).i.toNat : Nat) : Int).toNat)) then
 ou 0 [(D.lst (((([] : List D) ++ ((a0.l.drop 0).take (((gd o2.2 0).i.toNat - 0 : Nat) : Int).toNat)) ++ (a1 :: ([] : List D))) ++ ((a0.l.drop (gd o2.2 0).i.toNat).take (((a0.l.length : Int).toNat - (gd o2.2 0).i.toNat : Nat) : Int).toNat)))]
 else none
 else none
 else none
 else none
 else none) fun _ => none) fun _ => none) := by kernel_rfl
theorem q_spec_ApplyBatch (a0 a1 : D) : e_spec_ApplyBatch.F [a0, a1] = rn (
 (e_spec_GoodZone.F [a0]).bind fun r2 =>
 if (!r2.b) then
 ou 0 [(.pair (.pair (.str []) (.pair (.int 0) (.pair (D.lst []) .unit))) (.pair (.int 1) .unit))]
 else
 (e_spec_l6Batch.F [a1]).bind fun r3 =>
 if (!r3.b) then
 (e_spec_l6Own.F [a0]).bind fun r4 =>
 ou 0 [(.pair r4 (.pair (.int 1) .unit))]
 else
 (loopF (fun l4 =>
 if (decide ((gd l4 0).i < (a1.l.length : Int))) then
 if (inb (gd l4 0).i a1.l.length) then
 (e_spec_l6Has.F [(a0.fld 2), (((gd a1.l (gd l4 0).i.toNat).fld 1).fld 0), (((gd a1.l (gd l4 0).i.toNat).fld 1).fld 1)]).bind fun r5 =>
 (if (((gd a1.l (gd l4 0).i.toNat).fld 0).i == 3) then
 if (!r5.b) then
 ou 0 [(.bool true)]
 else
 if (((gd a1.l (gd l4 0).i.toNat).fld 0).i == 4) then
 ou 0 [r5]
 else
 ou 0 [(.bool false)]
 else
 if (((gd a1.l (gd l4 0).i.toNat).fld 0).i == 4) then
 ou 0 [r5]
 else
 ou 0 [(.bool false)]).bind fun o6 =>
 sel2 o6.1 (if (gd o6.2 0).b then
 (e_spec_l6Own.F [a0]).bind fun r7 =>
 ou 1 [r7, (.int 2)]
 else
 ou 0 [(.int (IntKind.wrap .i64 ((gd l4 0).i + 1)))]) fun _ => none
 else none
 else
 ou 2 []) [(.int 0)]).bind fun o4 =>
 sel2 o4.1 (ou 0 [(.pair (gd o4.2 0) (.pair (gd o4.2 1) .unit))]) fun n6 =>
 sel2 n6 (if (appOk 48 ([] : List D) (a0.fld 2).l) then
 (loopF (fun l4 =>
 if (decide ((gd l4 1).i < (a1.l.length : Int))) then
 (if (inb (gd l4 1).i a1.l.length) then
 if (((gd a1.l (gd l4 1).i.toNat).fld 0).i == 2) then
 (e_spec_l6Drop.F [(gd l4 0), ((gd a1.l (gd l4 1).i.toNat).fld 1)]).bind fun r6 =>
 ou 0 [r6]
 else
 if (((gd a1.l (gd l4 1).i.toNat).fld 0).i == 1) then
 (e_spec_l6Drop.F [(gd l4 0), ((gd a1.l (gd l4 1).i.toNat).fld 1)]).bind fun r6 =>
 (e_spec_l3Put.F [r6, ((gd a1.l (gd l4 1).i.toNat).fld 1)]).bind fun r7 =>
 ou 0 [r7]
 else
 ou 0 [(gd l4 0)]
 else none).bind fun o6 =>
 sel2 o6.1 (ou 0 [(gd o6.2 0), (.int (IntKind.wrap .i64 ((gd l4 1).i + 1)))]) fun _ => none
 else
 ou 1 [(gd l4 0)]) [(D.lst (([] : List D) ++ (a0.fld 2).l)), (.int 0)]).bind fun o4 =>
 sel2 o4.1 ((if (decide (((gd o4.2 0).l.length : Int) > 40)) then
 ou 0 [(.bool true)]
 else
 ou 0 [(.bool ((a0.fld 1).i == 1152921504606846976))]).bind fun o5 =>
 sel2 o5.1 (if (gd o5.2 0).b then
 (e_spec_l6Own.F [a0]).bind fun r6 =>
 ou 0 [(.pair r6 (.pair (.int 4) .unit))]
 else
 (e_spec_l6Rule.F [(a0.fld 0), (gd o4.2 0)]).bind fun r6 =>
 if (r6.i != 0) then
 (e_spec_l6Own.F [a0]).bind fun r7 =>
 ou 0 [(.pair r7 (.pair (.int 3) .unit))]
 else
 (loopF (fun l7 =>
 if (decide ((gd l7 1).i < ((gd o4.2 0).l.length : Int))) then
 if (inb (gd l7 1).i (gd o4.2 0).l.length) then
 (if (((gd (gd o4.2 0).l (gd l7 1).i.toNat).fld 1).i == 6) then
 (e_spec_l6Soa.F [(gd l7 0)]).bind fun r9 =>
 ou 0 [((gd (gd o4.2 0).l (gd l7 1).i.toNat).setFld 3 r9)]
 else
 ou 0 [(gd (gd o4.2 0).l (gd l7 1).i.toNat)]).bind fun o9 =>
 sel2 o9.1 (if (appOk 48 ((gd l7 0).fld 2).l ((gd o9.2 0) :: ([] : List D))) then
 ou 0 [((gd l7 0).setFld 2 (D.lst (((gd l7 0).fld 2).l ++ ((gd o9.2 0) :: ([] : List D))))), (.int (IntKind.wrap .i64 ((gd l7 1).i + 1)))]
 else none) fun _ => none
 else none
 else
 ou 1 [(gd l7 0)]) [(.pair (a0.fld 0) (.pair (.int (IntKind.wrap .i64 ((a0.fld 1).i + 1))) (.pair (D.lst []) .unit))), (.int 0)]).bind fun o7 =>
 sel2 o7.1 (ou 0 [(.pair (gd o7.2 0) (.pair (.int 0) .unit))]) fun _ => none) fun _ => none) fun _ => none
 else none) fun _ => none) := by kernel_rfl
theorem q_spec_l1Cur_next (a0 : D) : e_spec_l1Cur_next.F [a0] = rn (
 (if (decide ((a0.fld 1).i < ((a0.fld 0).l.length : Int))) then
 if (inb (a0.fld 1).i (a0.fld 0).l.length) then
 ou 0 [(.int (IntKind.wrap .i64 (gd (a0.fld 0).l (a0.fld 1).i.toNat).i))]
 else none
 else
 ou 0 [(.int 0)]).bind fun o1 =>
 sel2 o1.1 (if (decide ((IntKind.wrap .i64 ((a0.fld 1).i + 1)) ≤ ((a0.fld 0).l.length : Int))) then
 ou 0 [(.pair (gd o1.2 0) (.pair ((a0.setFld 1 (.int (IntKind.wrap .i64 ((a0.fld 1).i + 1)))).setFld 2 (.int (IntKind.wrap .u64 ((IntKind.wrap .u64 ((IntKind.wrap .u64 ((a0.fld 2).i * 6364136223846793005)) + (IntKind.wrap .u64 (gd o1.2 0).i))) + 1442695040888963407)))) .unit))]
 else
 if (decide (0 ≤ 40)) then
 ou 0 [(.pair (.int (IntKind.wrap .i64 (D.ofBin (binInt .and .u64 ((IntKind.wrap .u64 ((IntKind.wrap .u64 ((IntKind.wrap .u64 ((a0.fld 2).i * 6364136223846793005)) + (IntKind.wrap .u64 (gd o1.2 0).i))) + 1442695040888963407)).fdiv (2 ^ min 40 (IntKind.bits .u64))) 255)).i)) (.pair ((a0.setFld 1 (.int (IntKind.wrap .i64 ((a0.fld 1).i + 1)))).setFld 2 (.int (IntKind.wrap .u64 ((IntKind.wrap .u64 ((IntKind.wrap .u64 ((a0.fld 2).i * 6364136223846793005)) + (IntKind.wrap .u64 (gd o1.2 0).i))) + 1442695040888963407)))) .unit))]
 else none) fun _ => none) := by kernel_rfl
theorem q_spec_l1Cur_pick (a0 a1 : D) : e_spec_l1Cur_pick.F [a0, a1] = rn (
 if (decide (a1.i ≤ 1)) then
 ou 0 [(.pair (.int 0) (.pair a0 .unit))]
 else
 (e_spec_l1Cur_next.F [a0]).bind fun r2 =>
 (if (decide (a1.i > 200)) then
 (e_spec_l1Cur_next.F [(r2.fld 1)]).bind fun r3 =>
 ou 0 [(r3.fld 1), (.int (IntKind.wrap .i64 ((IntKind.wrap .i64 ((r2.fld 0).i * 256)) + (r3.fld 0).i)))]
 else
 ou 0 [(r2.fld 1), (r2.fld 0)]).bind fun o3 =>
 sel2 o3.1 (if (a1.i != 0) then
 ou 0 [(.pair (.int ((gd o3.2 1).i.tmod a1.i)) (.pair (gd o3.2 0) .unit))]
 else none) fun _ => none) := by kernel_rfl
theorem q_spec_l1Cur_one (a0 a1 : D) : e_spec_l1Cur_one.F [a0, a1] = rn (
 (e_spec_l1Cur_pick.F [a0, a1]).bind fun r2 =>
 ou 0 [(.pair (.bool ((r2.fld 0).i == 0)) (.pair (r2.fld 1) .unit))]) := by kernel_rfl
theorem q_spec_l1Cur_of (a0 a1 : D) : e_spec_l1Cur_of.F [a0, a1] = rn (
 (e_spec_l1Cur_pick.F [a0, (.int (a1.l.length : Int))]).bind fun r2 =>
 if (inb (r2.fld 0).i a1.l.length) then
 ou 0 [(.pair (gd a1.l (r2.fld 0).i.toNat) (.pair (r2.fld 1) .unit))]
 else none) := by kernel_rfl
theorem q_spec_l1Cur_among (a0 a1 : D) : e_spec_l1Cur_among.F [a0, a1] = rn (
 (e_spec_l1Cur_pick.F [a0, (.int (a1.l.length : Int))]).bind fun r2 =>
 if (inb (r2.fld 0).i a1.l.length) then
 ou 0 [(.pair (gd a1.l (r2.fld 0).i.toNat) (.pair (r2.fld 1) .unit))]
 else none) := by kernel_rfl
theorem q_spec_l1Cur_name (a0 : D) : e_spec_l1Cur_name.F [a0] = rn (
 (e_spec_l1Cur_pick.F [a0, (.int 40)]).bind fun r1 =>
 if ((r1.fld 0).i == 0) then
 (e_spec_l1Cur_of.F [(r1.fld 1), (D.lst ((D.str []) :: ((D.str [46]) :: ((D.str [97, 46, 46, 98]) :: ((D.str [65]) :: ((D.str [97, 46]) :: ((D.str [97, 42]) :: ((D.str [97, 46, 98, 46, 99, 46, 100, 46, 101, 46, 102, 46, 103, 46, 104]) :: ((D.str [97, 46, 98, 46, 99, 46, 100, 46, 101, 46, 102, 46, 103, 46, 104, 46, 105]) :: ((D.str [97, 98, 99, 100, 101, 102, 103, 104, 105, 106, 107, 108, 109, 110, 111, 112, 113, 114, 115, 116]) :: ((D.str [97, 98, 99, 100, 101, 102, 103, 104, 105, 106, 107, 108, 109, 110, 111, 112, 113, 114, 115, 116, 117]) :: ([] : List D))))))))))))]).bind fun r2 =>
 ou 0 [(.pair (r2.fld 0) (.pair (r2.fld 1) .unit))]
 else
 if ((r1.fld 0).i == 1) then
 (e_spec_l1Cur_of.F [(r1.fld 1), (D.lst ((D.str []) :: ((D.str [99, 111, 109]) :: ([] : List D))))]).bind fun r2 =>
 ou 0 [(.pair (r2.fld 0) (.pair (r2.fld 1) .unit))]
 else
 (e_spec_l1Cur_of.F [(r1.fld 1), (D.lst ((D.str [101, 120]) :: ((D.str [99, 111, 109]) :: ((D.str [101, 120, 46, 99, 111, 109]) :: ((D.str [101, 120, 46, 99, 111, 109]) :: ((D.str [101, 120, 46, 99, 111, 109]) :: ([] : List D)))))))]).bind fun r2 =>
 (e_spec_l1Cur_pick.F [(r2.fld 1), (.int 3)]).bind fun r3 =>
 (loopF (fun l4 =>
 if (decide ((gd l4 2).i > 0)) then
 (e_spec_l1Cur_of.F [(gd l4 0), (D.lst ((D.str [97]) :: ((D.str [98]) :: ((D.str [119, 119, 119]) :: ((D.str [115, 117, 98]) :: ((D.str [42]) :: ((D.str [120, 49]) :: ((D.str [110, 115]) :: ([] : List D)))))))))]).bind fun r7 =>
 if (catOk (r7.fld 0).s ([46] : List UInt8)) then
 if (catOk ((r7.fld 0).s ++ ([46] : List UInt8)) (gd l4 1).s) then
 ou 0 [(r7.fld 1), (.str (((r7.fld 0).s ++ ([46] : List UInt8)) ++ (gd l4 1).s)), (.int (IntKind.wrap .i64 ((gd l4 2).i - 1)))]
 else none
 else none
 else
 ou 1 [(gd l4 0), (gd l4 1)]) [(r3.fld 1), (r2.fld 0), (r3.fld 0)]).bind fun o4 =>
 sel2 o4.1 (ou 0 [(.pair (gd o4.2 1) (.pair (gd o4.2 0) .unit))]) fun _ => none) := by kernel_rfl
theorem q_spec_l1Cur_target (a0 : D) : e_spec_l1Cur_target.F [a0] = rn (
 (e_spec_l1Cur_of.F [a0, (D.lst ((D.str [97, 46, 101, 120, 46, 99, 111, 109]) :: ((D.str [98, 46, 101, 120, 46, 99, 111, 109]) :: ((D.str [110, 115, 46, 101, 120, 46, 99, 111, 109]) :: ((D.str [119, 119, 119, 46, 99, 111, 109]) :: ((D.str [120, 49, 46, 115, 117, 98, 46, 101, 120, 46, 99, 111, 109]) :: ([] : List D)))))))]).bind fun r1 =>
 ou 0 [(.pair (r1.fld 0) (.pair (r1.fld 1) .unit))]) := by kernel_rfl
theorem q_spec_l1Cur_record (a0 : D) : e_spec_l1Cur_record.F [a0] = rn (
 (e_spec_l1Cur_name.F [a0]).bind fun r1 =>
 (e_spec_l1Cur_among.F [(r1.fld 1), (D.lst ((.int 1) :: ((.int 1) :: ((.int 1) :: ((.int 2) :: ((.int 5) :: ((.int 15) :: ((.int 16) :: ((.int 6) :: ([] : List D))))))))))]).bind fun r2 =>
 (e_spec_l1Cur_among.F [(r2.fld 1), (D.lst ((.int 5) :: ((.int 60) :: ((.int 60) :: ((.int 300) :: ([] : List D))))))]).bind fun r3 =>
 (if ((r2.fld 0).i == 1) then
 (e_spec_l1Cur_of.F [(r3.fld 1), (D.lst ((D.str [49, 46, 50, 46, 51, 46, 52]) :: ((D.str [49, 46, 50, 46, 51, 46, 53]) :: ((D.str [49, 48, 46, 48, 46, 48, 46, 49]) :: ((D.str [57, 46, 57, 46, 57, 46, 57]) :: ([] : List D))))))]).bind fun r4 =>
 ou 0 [(r4.fld 1), (.pair (r1.fld 0) (.pair (r2.fld 0) (.pair (r3.fld 0) (.pair (r4.fld 0) .unit))))]
 else
 (if ((r2.fld 0).i == 2) then
 ou 0 [(.bool ((r2.fld 0).i == 2))]
 else
 ou 0 [(.bool ((r2.fld 0).i == 5))]).bind fun o4 =>
 sel2 o4.1 (if (gd o4.2 0).b then
 (e_spec_l1Cur_target.F [(r3.fld 1)]).bind fun r5 =>
 ou 0 [(r5.fld 1), (.pair (r1.fld 0) (.pair (r2.fld 0) (.pair (r3.fld 0) (.pair (r5.fld 0) .unit))))]
 else
 if ((r2.fld 0).i == 6) then
 (e_spec_l1Cur_pick.F [(r3.fld 1), (.int 20)]).bind fun r5 =>
 (e_spec_l1Num.F [(r5.fld 0)]).bind fun r6 =>
 ou 0 [(r5.fld 1), (.pair (r1.fld 0) (.pair (r2.fld 0) (.pair (r3.fld 0) (.pair r6 .unit))))]
 else
 if ((r2.fld 0).i == 15) then
 (e_spec_l1Cur_pick.F [(r3.fld 1), (.int 30)]).bind fun r5 =>
 (e_spec_l1Num.F [(r5.fld 0)]).bind fun r6 =>
 if (catOk r6.s ([32] : List UInt8)) then
 (e_spec_l1Cur_target.F [(r5.fld 1)]).bind fun r7 =>
 if (catOk (r6.s ++ ([32] : List UInt8)) (r7.fld 0).s) then
 ou 0 [(r7.fld 1), (.pair (r1.fld 0) (.pair (r2.fld 0) (.pair (r3.fld 0) (.pair (.str ((r6.s ++ ([32] : List UInt8)) ++ (r7.fld 0).s)) .unit))))]
 else none
 else none
 else
 (e_spec_l1Cur_of.F [(r3.fld 1), (D.lst ((D.str [104, 101, 108, 108, 111]) :: ((D.str []) :: ((D.str [118, 61, 49, 32, 120]) :: ([] : List D)))))]).bind fun r5 =>
 ou 0 [(r5.fld 1), (.pair (r1.fld 0) (.pair (r2.fld 0) (.pair (r3.fld 0) (.pair (r5.fld 0) .unit))))]) fun _ => none).bind fun o4 =>
 sel2 o4.1 (((e_spec_l1Cur_pick.F [(gd o4.2 0), (.int 40)]).bind fun r6 =>
 if ((r6.fld 0).i == 0) then
 (e_spec_l1Cur_among.F [(r6.fld 1), (D.lst ((.int (-1)) :: ((.int 0) :: ((.int 100000) :: ((.int 100001) :: ([] : List D))))))]).bind fun r7 =>
 ou 0 [(r7.fld 1), ((gd o4.2 1).setFld 2 (r7.fld 0))]
 else
 if ((r6.fld 0).i == 1) then
 (e_spec_l1Cur_of.F [(r6.fld 1), (D.lst ((D.str [49, 46, 50, 46, 51]) :: ((D.str [50, 53, 54, 46, 49, 46, 49, 46, 49]) :: ((D.str [42]) :: ((D.str [52, 50, 57, 52, 57, 54, 55, 50, 57, 53]) :: ((D.str [52, 50, 57, 52, 57, 54, 55, 50, 57, 54]) :: ((D.str [55, 48, 48, 48, 48, 32, 97, 46, 98]) :: ((D.str [48, 49, 46, 50, 46, 51, 46, 52]) :: ((D.str [1]) :: ([] : List D))))))))))]).bind fun r7 =>
 ou 0 [(r7.fld 1), ((gd o4.2 1).setFld 3 (r7.fld 0))]
 else
 if ((r6.fld 0).i == 2) then
 (e_spec_l1Cur_pick.F [(r6.fld 1), (.int 20)]).bind fun r7 =>
 ou 0 [(r7.fld 1), ((gd o4.2 1).setFld 1 (r7.fld 0))]
 else
 ou 0 [(r6.fld 1), (gd o4.2 1)]).bind fun o6 =>
 sel2 o6.1 (ou 0 [(.pair (gd o6.2 1) (.pair (gd o6.2 0) .unit))]) fun _ => none) fun _ => none) := by kernel_rfl
theorem q_spec_l1Cur_inZone (a0 : D) : e_spec_l1Cur_inZone.F [a0] = rn (
 (e_spec_l1Cur_record.F [a0]).bind fun r1 =>
 (e_spec_l1Cur_one.F [(r1.fld 1), (.int 12)]).bind fun r2 =>
 if (r2.fld 0).b then
 ou 0 [(.pair (r1.fld 0) (.pair (r2.fld 1) .unit))]
 else
 (e_spec_l1Cur_of.F [(r2.fld 1), (D.lst ((D.str [101, 120, 46, 99, 111, 109]) :: ((D.str [97, 46, 101, 120, 46, 99, 111, 109]) :: ((D.str [98, 46, 101, 120, 46, 99, 111, 109]) :: ((D.str [119, 119, 119, 46, 101, 120, 46, 99, 111, 109]) :: ((D.str [42, 46, 101, 120, 46, 99, 111, 109]) :: ((D.str [120, 46, 97, 46, 101, 120, 46, 99, 111, 109]) :: ((D.str [115, 117, 98, 46, 101, 120, 46, 99, 111, 109]) :: ((D.str [110, 115, 46, 115, 117, 98, 46, 101, 120, 46, 99, 111, 109]) :: ([] : List D))))))))))]).bind fun r3 =>
 ((if (((r1.fld 0).fld 1).i == 6) then
 (e_spec_l1Cur_one.F [(r3.fld 1), (.int 4)]).bind fun r4 =>
 ou 0 [(r4.fld 1), (.bool (!(r4.fld 0).b))]
 else
 ou 0 [(r3.fld 1), (.bool false)]).bind fun o4 =>
 sel2 o4.1 (if (gd o4.2 1).b then
 ou 0 [(gd o4.2 0), (((((r1.fld 0).setFld 0 (r3.fld 0)).setFld 2 (.int 60)).setFld 1 (.int 1)).setFld 3 (D.str [49, 46, 50, 46, 51, 46, 52]))]
 else
 ou 0 [(gd o4.2 0), (((r1.fld 0).setFld 0 (r3.fld 0)).setFld 2 (.int 60))]) fun _ => none).bind fun o4 =>
 sel2 o4.1 (((if (((gd o4.2 1).fld 0).s == ([115, 117, 98, 46, 101, 120, 46, 99, 111, 109] : List UInt8)) then
 if (((gd o4.2 1).fld 1).i != 2) then
 (e_spec_l1Cur_one.F [(gd o4.2 0), (.int 2)]).bind fun r6 =>
 ou 0 [(r6.fld 1), (r6.fld 0)]
 else
 ou 0 [(gd o4.2 0), (.bool false)]
 else
 ou 0 [(gd o4.2 0), (.bool false)]).bind fun o6 =>
 sel2 o6.1 (if (gd o6.2 1).b then
 ou 0 [(gd o6.2 0), (((gd o4.2 1).setFld 1 (.int 2)).setFld 3 (D.str [110, 115, 46, 115, 117, 98, 46, 101, 120, 46, 99, 111, 109]))]
 else
 ou 0 [(gd o6.2 0), (gd o4.2 1)]) fun _ => none).bind fun o6 =>
 sel2 o6.1 (ou 0 [(.pair (gd o6.2 1) (.pair (gd o6.2 0) .unit))]) fun _ => none) fun _ => none) := by kernel_rfl
theorem q_spec_l1Cur_batch (a0 : D) : e_spec_l1Cur_batch.F [a0] = rn (
 (e_spec_l1Cur_pick.F [a0, (.int 3)]).bind fun r1 =>
 ((e_spec_l1Cur_one.F [(r1.fld 1), (.int 40)]).bind fun r2 =>
 if (r2.fld 0).b then
 (e_spec_l1Cur_pick.F [(r2.fld 1), (.int 2)]).bind fun r3 =>
 ou 0 [(r3.fld 1), (.int (IntKind.wrap .i64 (12 + (r3.fld 0).i)))]
 else
 ou 0 [(r2.fld 1), (.int (IntKind.wrap .i64 (1 + (r1.fld 0).i)))]).bind fun o2 =>
 sel2 o2.1 ((loopF (fun l4 =>
 if (decide ((gd l4 2).i > 0)) then
 (e_spec_l1Cur_among.F [(gd l4 0), (D.lst ((.int 1) :: ((.int 1) :: ((.int 1) :: ((.int 1) :: ((.int 2) :: ((.int 3) :: ((.int 4) :: ([] : List D)))))))))]).bind fun r7 =>
 (e_spec_l1Cur_inZone.F [(r7.fld 1)]).bind fun r8 =>
 if (appOk 56 (gd l4 1).l ((.pair (r7.fld 0) (.pair (r8.fld 0) .unit)) :: ([] : List D))) then
 ou 0 [(r8.fld 1), (D.lst ((gd l4 1).l ++ ((.pair (r7.fld 0) (.pair (r8.fld 0) .unit)) :: ([] : List D)))), (.int (IntKind.wrap .i64 ((gd l4 2).i - 1)))]
 else none
 else
 ou 1 [(gd l4 0), (gd l4 1)]) [(gd o2.2 0), (D.lst []), (gd o2.2 1)]).bind fun o4 =>
 sel2 o4.1 (((e_spec_l1Cur_one.F [(gd o4.2 0), (.int 60)]).bind fun r6 =>
 if (r6.fld 0).b then
 (e_spec_l1Cur_pick.F [(r6.fld 1), (.int 6)]).bind fun r7 =>
 if (inb 0 (gd o4.2 1).l.length) then
 ou 0 [(r7.fld 1), (D.lst (upd (gd o4.2 1).l 0 0 (r7.fld 0)))]
 else none
 else
 ou 0 [(r6.fld 1), (gd o4.2 1)]).bind fun o6 =>
 sel2 o6.1 (ou 0 [(.pair (gd o6.2 1) (.pair (gd o6.2 0) .unit))]) fun _ => none) fun _ => none) fun _ => none) := by kernel_rfl
theorem q_spec_l1Cur_zone (a0 : D) : e_spec_l1Cur_zone.F [a0] = rn (
 (e_spec_l1Cur_of.F [a0, (D.lst ((D.str [101, 120, 46, 99, 111, 109]) :: ((D.str [101, 120, 46, 99, 111, 109]) :: ((D.str [101, 120, 46, 99, 111, 109]) :: ((D.str [99, 111, 109]) :: ((D.str []) :: ([] : List D)))))))]).bind fun r1 =>
 (e_spec_NewZone.F [(r1.fld 0)]).bind fun r2 =>
 ((e_spec_l1Cur_one.F [(r1.fld 1), (.int 12)]).bind fun r3 =>
 if (r3.fld 0).b then
 (e_spec_l6Soa.F [((r2.fld 0).setFld 1 (.int 4294967294))]).bind fun r4 =>
 if (inb 0 ((r2.fld 0).fld 2).l.length) then
 ou 0 [(r3.fld 1), (((r2.fld 0).setFld 1 (.int 4294967294)).setFld 2 (D.lst (upd ((r2.fld 0).fld 2).l 0 3 r4)))]
 else none
 else
 ou 0 [(r3.fld 1), (r2.fld 0)]).bind fun o3 =>
 sel2 o3.1 ((e_spec_l1Cur_pick.F [(gd o3.2 0), (.int 9)]).bind fun r5 =>
 (loopF (fun l6 =>
 if (decide ((gd l6 2).i > 0)) then
 ((e_spec_l1Cur_batch.F [(gd l6 0)]).bind fun r9 =>
 (e_spec_ApplyBatch.F [(gd l6 1), (r9.fld 0)]).bind fun r10 =>
 if ((r10.fld 1).i == 0) then
 ou 0 [(r9.fld 1), (r10.fld 0)]
 else
 ou 0 [(r9.fld 1), (gd l6 1)]).bind fun o9 =>
 sel2 o9.1 (ou 0 [(gd o9.2 0), (gd o9.2 1), (.int (IntKind.wrap .i64 ((gd l6 2).i - 1)))]) fun _ => none
 else
 ou 1 [(gd l6 0), (gd l6 1)]) [(r5.fld 1), (gd o3.2 1), (r5.fld 0)]).bind fun o6 =>
 sel2 o6.1 (((e_spec_l1Cur_pick.F [(gd o6.2 0), (.int 40)]).bind fun r8 =>
 if ((r8.fld 0).i == 0) then
 ou 0 [(r8.fld 1), ((gd o6.2 1).setFld 1 (.int (IntKind.wrap .i64 (((gd o6.2 1).fld 1).i + 1))))]
 else
 if ((r8.fld 0).i == 1) then
 (e_spec_l1Cur_inZone.F [(r8.fld 1)]).bind fun r9 =>
 if (appOk 48 ((gd o6.2 1).fld 2).l ((r9.fld 0) :: ([] : List D))) then
 ou 0 [(r9.fld 1), ((gd o6.2 1).setFld 2 (D.lst (((gd o6.2 1).fld 2).l ++ ((r9.fld 0) :: ([] : List D)))))]
 else none
 else
 if ((r8.fld 0).i == 2) then
 (e_spec_l1Cur_name.F [(r8.fld 1)]).bind fun r9 =>
 ou 0 [(r9.fld 1), ((gd o6.2 1).setFld 0 (r9.fld 0))]
 else
 ou 0 [(r8.fld 1), (gd o6.2 1)]).bind fun o8 =>
 sel2 o8.1 (ou 0 [(.pair (gd o8.2 1) (.pair (gd o8.2 0) .unit))]) fun _ => none) fun _ => none) fun _ => none) := by kernel_rfl
theorem q_spec_l1Cur_world (a0 : D) : e_spec_l1Cur_world.F [a0] = rn (
 (e_spec_NewZone.F [(D.str [])]).bind fun r1 =>
 ((e_spec_l11Delegates.F [(D.str [99, 111, 109]), (D.str [110, 115, 46, 99, 111, 109])]).bind fun r2 =>
 (e_spec_ApplyBatch.F [(r1.fld 0), r2]).bind fun r3 =>
 (if ((r3.fld 1).i == 0) then
 (e_spec_l1Cur_one.F [a0, (.int 12)]).bind fun r4 =>
 ou 0 [(r4.fld 1), (.bool (!(r4.fld 0).b))]
 else
 ou 0 [a0, (.bool false)]).bind fun o4 =>
 sel2 o4.1 (if (gd o4.2 1).b then
 ou 0 [(gd o4.2 0), (r3.fld 0)]
 else
 ou 0 [(gd o4.2 0), (r1.fld 0)]) fun _ => none).bind fun o2 =>
 sel2 o2.1 ((e_spec_NewZone.F [(D.str [99, 111, 109])]).bind fun r4 =>
 ((e_spec_l11Delegates.F [(D.str [101, 120, 46, 99, 111, 109]), (D.str [110, 115, 46, 101, 120, 46, 99, 111, 109])]).bind fun r5 =>
 (e_spec_ApplyBatch.F [(r4.fld 0), r5]).bind fun r6 =>
 (if ((r6.fld 1).i == 0) then
 (e_spec_l1Cur_one.F [(gd o2.2 0), (.int 8)]).bind fun r7 =>
 ou 0 [(r7.fld 1), (.bool (!(r7.fld 0).b))]
 else
 ou 0 [(gd o2.2 0), (.bool false)]).bind fun o7 =>
 sel2 o7.1 (if (gd o7.2 1).b then
 ou 0 [(gd o7.2 0), (r6.fld 0)]
 else
 ou 0 [(gd o7.2 0), (r4.fld 0)]) fun _ => none).bind fun o5 =>
 sel2 o5.1 (((e_spec_AddZone.F [(.pair (D.lst ((gd o2.2 1) :: ([] : List D))) .unit), (gd o5.2 1)]).bind fun r7 =>
 (if (r7.fld 1).b then
 (e_spec_l1Cur_one.F [(gd o5.2 0), (.int 12)]).bind fun r8 =>
 ou 0 [(r8.fld 1), (.bool (!(r8.fld 0).b))]
 else
 ou 0 [(gd o5.2 0), (.bool false)]).bind fun o8 =>
 sel2 o8.1 (if (gd o8.2 1).b then
 ou 0 [(gd o8.2 0), (r7.fld 0)]
 else
 ou 0 [(gd o8.2 0), (.pair (D.lst ((gd o2.2 1) :: ([] : List D))) .unit)]) fun _ => none).bind fun o7 =>
 sel2 o7.1 ((e_spec_l1Cur_zone.F [(gd o7.2 0)]).bind fun r9 =>
 ((e_spec_AddZone.F [(gd o7.2 1), (r9.fld 0)]).bind fun r10 =>
 if (r10.fld 1).b then
 ou 0 [(r10.fld 0)]
 else
 ou 0 [(gd o7.2 1)]).bind fun o10 =>
 sel2 o10.1 ((e_spec_NewZone.F [(D.str [115, 117, 98, 46, 101, 120, 46, 99, 111, 109])]).bind fun r11 =>
 ((e_spec_AddZone.F [(gd o10.2 0), (r11.fld 0)]).bind fun r12 =>
 (if (r12.fld 1).b then
 (e_spec_l1Cur_one.F [(r9.fld 1), (.int 2)]).bind fun r13 =>
 ou 0 [(r13.fld 1), (r13.fld 0)]
 else
 ou 0 [(r9.fld 1), (.bool false)]).bind fun o13 =>
 sel2 o13.1 (if (gd o13.2 1).b then
 ou 0 [(gd o13.2 0), (r12.fld 0)]
 else
 ou 0 [(gd o13.2 0), (gd o10.2 0)]) fun _ => none).bind fun o12 =>
 sel2 o12.1 (((e_spec_l1Cur_one.F [(gd o12.2 0), (.int 30)]).bind fun r14 =>
 if (r14.fld 0).b then
 if (slOk 1 (((gd o12.2 1).fld 0).l.length : Int) (((gd o12.2 1).fld 0).l.length : Int)) then
 if (winOk 1 (((((gd o12.2 1).fld 0).l.length : Int).toNat - 1 : Nat) : Int).toNat ((gd o12.2 1).fld 0).l) then
 ou 0 [(r14.fld 1), ((gd o12.2 1).setFld 0 (D.lst ((((gd o12.2 1).fld 0).l.drop 1).take (((((gd o12.2 1).fld 0).l.length : Int).toNat - 1 : Nat) : Int).toNat)))]
 else none
 else none
 else
 ou 0 [(r14.fld 1), (gd o12.2 1)]).bind fun o14 =>
 sel2 o14.1 (ou 0 [(.pair (gd o14.2 1) (.pair (gd o14.2 0) .unit))]) fun _ => none) fun _ => none) fun _ => none) fun _ => none) fun _ => none) fun _ => none) := by kernel_rfl
theorem q_spec_l1Cur_asked (a0 : D) : e_spec_l1Cur_asked.F [a0] = rn (
 (e_spec_l1Cur_one.F [a0, (.int 6)]).bind fun r1 =>
 if (r1.fld 0).b then
 (e_spec_l1Cur_name.F [(r1.fld 1)]).bind fun r2 =>
 ou 0 [(.pair (r2.fld 0) (.pair (r2.fld 1) .unit))]
 else
 (e_spec_l1Cur_of.F [(r1.fld 1), (D.lst ((D.str [101, 120, 46, 99, 111, 109]) :: ((D.str [97, 46, 101, 120, 46, 99, 111, 109]) :: ((D.str [98, 46, 101, 120, 46, 99, 111, 109]) :: ((D.str [119, 119, 119, 46, 101, 120, 46, 99, 111, 109]) :: ((D.str [113, 46, 101, 120, 46, 99, 111, 109]) :: ((D.str [113, 46, 97, 46, 101, 120, 46, 99, 111, 109]) :: ((D.str [120, 46, 97, 46, 101, 120, 46, 99, 111, 109]) :: ((D.str [42, 46, 101, 120, 46, 99, 111, 109]) :: ((D.str [115, 117, 98, 46, 101, 120, 46, 99, 111, 109]) :: ((D.str [104, 46, 115, 117, 98, 46, 101, 120, 46, 99, 111, 109]) :: ((D.str [110, 115, 46, 115, 117, 98, 46, 101, 120, 46, 99, 111, 109]) :: ((D.str [99, 111, 109]) :: ([] : List D))))))))))))))]).bind fun r2 =>
 ou 0 [(.pair (r2.fld 0) (.pair (r2.fld 1) .unit))]) := by kernel_rfl
theorem q_spec_DrawZoneFor (a0 : D) : e_spec_DrawZoneFor.F [a0] = rn (
 (e_spec_l1Cur_world.F [(.pair a0 (.pair (.int 0) (.pair (.int 0) .unit)))]).bind fun r1 =>
 (e_spec_l1Cur_asked.F [(r1.fld 1)]).bind fun r2 =>
 ou 0 [(.pair (r1.fld 0) (.pair (r2.fld 0) .unit))]) := by kernel_rfl
theorem q_spec_DrawReachedBy (a0 : D) : e_spec_DrawReachedBy.F [a0] = rn (
 (e_spec_DrawZoneFor.F [a0]).bind fun r1 =>
 ou 0 [(.pair (r1.fld 0) (.pair (r1.fld 1) .unit))]) := by kernel_rfl
theorem q_impl_parentOf (a0 : D) : e_impl_parentOf.F [a0] = rn (
 (e_strings_Cut.F [a0, (D.str [46])]).bind fun r1 =>
 ou 0 [(r1.fld 1)]) := by kernel_rfl
theorem q_impl_cutAbove (a0 a1 : D) : e_impl_cutAbove.F [a0, a1] = rn (
 (loopF (fun l2 =>
 if (!((gd l2 0).s == (a0.fld 0).s)) then
 ((e_impl_at.F [(a0.fld 2), (gd l2 0), (.int 2)]).bind fun r5 =>
 if (decide ((r5.l.length : Int) > 0)) then
 ou 0 [(gd l2 0), (.bool true)]
 else
 ou 0 [(gd l2 1), (gd l2 2)]).bind fun o5 =>
 sel2 o5.1 ((e_impl_parentOf.F [(gd l2 0)]).bind fun r7 =>
 ou 0 [r7, (gd o5.2 0), (gd o5.2 1)]) fun _ => none
 else
 ou 1 [(gd l2 1), (gd l2 2)]) [a1, (D.str []), (.bool false)]).bind fun o2 =>
 sel2 o2.1 (ou 0 [(.pair (gd o2.2 0) (.pair (gd o2.2 1) .unit))]) fun _ => none) := by kernel_rfl
theorem q_impl_reachedBy (a0 a1 : D) : e_impl_reachedBy.F [a0, a1] = rn (
 (loopF (fun l2 =>
 if (inb (gd l2 0).i (a0.fld 0).l.length) then
 (e_impl_cutAbove.F [(gd (a0.fld 0).l (gd l2 0).i.toNat), a1]).bind fun r4 =>
 (e_impl_World_find.F [a0, (r4.fld 0)]).bind fun r5 =>
 (if (!(r4.fld 1).b) then
 ou 0 [(.bool true)]
 else
 ou 0 [(.bool (!(r5.fld 1).b))]).bind fun o6 =>
 sel2 o6.1 (if (gd o6.2 0).b then
 ou 1 [(gd l2 1)]
 else
 if (appOk 16 (gd l2 1).l ((r4.fld 0) :: ([] : List D))) then
 ou 0 [(r5.fld 0), (D.lst ((gd l2 1).l ++ ((r4.fld 0) :: ([] : List D))))]
 else none) fun _ => none
 else none) [(.int 0), (D.lst ((D.str []) :: ([] : List D)))]).bind fun o2 =>
 sel2 o2.1 (ou 0 [(gd o2.2 0)]) fun _ => none) := by kernel_rfl
theorem q_impl_ReachedBy (a0 a1 : D) : e_impl_ReachedBy.F [a0, a1] = rn (
 ((e_impl_GoodWorld.F [a0]).bind fun r2 =>
 if (!r2.b) then
 ou 0 [(.bool true)]
 else
 (e_impl_GoodName.F [a1]).bind fun r3 =>
 ou 0 [(.bool (!r3.b))]).bind fun o2 =>
 sel2 o2.1 (if (gd o2.2 0).b then
 ou 0 [(.pair (D.lst []) (.pair (.bool false) .unit))]
 else
 (e_impl_reachedBy.F [a0, a1]).bind fun r3 =>
 ou 0 [(.pair r3 (.pair (.bool true) .unit))]) fun _ => none) := by kernel_rfl
theorem q_spec_l11At (a0 a1 : D) : e_spec_l11At.F [a0, a1] = rn (
 (loopF (fun l2 =>
 if (decide ((gd l2 0).i < ((a0.fld 0).l.length : Int))) then
 if (inb (gd l2 0).i (a0.fld 0).l.length) then
 if (((gd (a0.fld 0).l (gd l2 0).i.toNat).fld 0).s == a1.s) then
 ou 1 [(gd l2 0)]
 else
 ou 0 [(.int (IntKind.wrap .i64 ((gd l2 0).i + 1)))]
 else none
 else
 ou 2 []) [(.int 0)]).bind fun o2 =>
 sel2 o2.1 (ou 0 [(gd o2.2 0)]) fun n2 =>
 sel2 n2 (ou 0 [(.int (-1))]) fun _ => none) := by kernel_rfl
theorem q_spec_l11Next (a0 a1 a2 : D) : e_spec_l11Next.F [a0, a1, a2] = rn (
 if (inb a1.i (a0.fld 0).l.length) then
 (e_spec_l6Cut.F [((gd (a0.fld 0).l a1.i.toNat).fld 0), ((gd (a0.fld 0).l a1.i.toNat).fld 2), a2]).bind fun r3 =>
 if (!(r3.fld 1).b) then
 ou 0 [(.int (-1))]
 else
 (e_spec_l11At.F [a0, (r3.fld 0)]).bind fun r4 =>
 ou 0 [r4]
 else none) := by kernel_rfl
theorem q_spec_ReachedBy (a0 a1 : D) : e_spec_ReachedBy.F [a0, a1] = rn (
 ((e_spec_GoodWorld.F [a0]).bind fun r2 =>
 if (!r2.b) then
 ou 0 [(.bool true)]
 else
 (e_spec_GoodName.F [a1]).bind fun r3 =>
 ou 0 [(.bool (!r3.b))]).bind fun o2 =>
 sel2 o2.1 (if (gd o2.2 0).b then
 ou 0 [(.pair (D.lst []) (.pair (.bool false) .unit))]
 else
 (e_spec_l11Next.F [a0, (.int 0), a1]).bind fun r3 =>
 (loopF (fun l4 =>
 if (decide ((gd l4 1).i ≥ 0)) then
 if (inb (gd l4 1).i (a0.fld 0).l.length) then
 if (appOk 16 (gd l4 0).l (((gd (a0.fld 0).l (gd l4 1).i.toNat).fld 0) :: ([] : List D))) then
 (e_spec_l11Next.F [a0, (gd l4 1), a1]).bind fun r6 =>
 ou 0 [(D.lst ((gd l4 0).l ++ (((gd (a0.fld 0).l (gd l4 1).i.toNat).fld 0) :: ([] : List D)))), r6]
 else none
 else none
 else
 ou 1 [(gd l4 0)]) [(D.lst ((D.str []) :: ([] : List D))), r3]).bind fun o4 =>
 sel2 o4.1 (ou 0 [(.pair (gd o4.2 0) (.pair (.bool true) .unit))]) fun _ => none) fun _ => none) := by kernel_rfl
theorem q_impl_countLabels (a0 : D) : e_impl_countLabels.F [a0] = rn (
 (e_impl_labelsOf.F [a0]).bind fun r1 =>
 ou 0 [(.int (r1.l.length : Int))]) := by kernel_rfl
theorem q_impl_ZoneFor (a0 a1 : D) : e_impl_ZoneFor.F [a0, a1] = rn (
 ((e_impl_GoodWorld.F [a0]).bind fun r2 =>
 if (!r2.b) then
 ou 0 [(.bool true)]
 else
 (e_impl_GoodName.F [a1]).bind fun r3 =>
 ou 0 [(.bool (!r3.b))]).bind fun o2 =>
 sel2 o2.1 (if (gd o2.2 0).b then
 ou 0 [(.pair (.int 0) (.pair (.bool false) .unit))]
 else
 (loopF (fun l3 =>
 if (decide ((gd l3 1).i < ((a0.fld 0).l.length : Int))) then
 (if (inb (gd l3 1).i (a0.fld 0).l.length) then
 ((e_impl_isBelow.F [a1, ((gd (a0.fld 0).l (gd l3 1).i.toNat).fld 0)]).bind fun r5 =>
 if r5.b then
 (e_impl_countLabels.F [((gd (a0.fld 0).l (gd l3 1).i.toNat).fld 0)]).bind fun r6 =>
 if (inb (gd l3 0).i (a0.fld 0).l.length) then
 (e_impl_countLabels.F [((gd (a0.fld 0).l (gd l3 0).i.toNat).fld 0)]).bind fun r7 =>
 ou 0 [(.bool (decide (r6.i > r7.i)))]
 else none
 else
 ou 0 [(.bool false)]).bind fun o5 =>
 sel2 o5.1 (if (gd o5.2 0).b then
 ou 0 [(gd l3 1)]
 else
 ou 0 [(gd l3 0)]) fun _ => none
 else none).bind fun o5 =>
 sel2 o5.1 (ou 0 [(gd o5.2 0), (.int (IntKind.wrap .i64 ((gd l3 1).i + 1)))]) fun _ => none
 else
 ou 1 [(gd l3 0)]) [(.int 0), (.int 0)]).bind fun o3 =>
 sel2 o3.1 (ou 0 [(.pair (gd o3.2 0) (.pair (.bool true) .unit))]) fun _ => none) fun _ => none) := by kernel_rfl
theorem q_spec_l8Many (a0 : D) : e_spec_l8Many.F [a0] = rn (
 (e_spec_l1Labels.F [a0]).bind fun r1 =>
 ou 0 [(.int ((r1.fld 0).l.length : Int))]) := by kernel_rfl
theorem q_spec_ZoneFor (a0 a1 : D) : e_spec_ZoneFor.F [a0, a1] = rn (
 ((e_spec_GoodWorld.F [a0]).bind fun r2 =>
 if (!r2.b) then
 ou 0 [(.bool true)]
 else
 (e_spec_GoodName.F [a1]).bind fun r3 =>
 ou 0 [(.bool (!r3.b))]).bind fun o2 =>
 sel2 o2.1 (if (gd o2.2 0).b then
 ou 0 [(.pair (.int 0) (.pair (.bool false) .unit))]
 else
 (loopF (fun l3 =>
 if (decide ((gd l3 1).i < ((a0.fld 0).l.length : Int))) then
 (if (inb (gd l3 1).i (a0.fld 0).l.length) then
 ((e_spec_l1Below.F [a1, ((gd (a0.fld 0).l (gd l3 1).i.toNat).fld 0)]).bind fun r5 =>
 if r5.b then
 (e_spec_l8Many.F [((gd (a0.fld 0).l (gd l3 1).i.toNat).fld 0)]).bind fun r6 =>
 if (inb (gd l3 0).i (a0.fld 0).l.length) then
 (e_spec_l8Many.F [((gd (a0.fld 0).l (gd l3 0).i.toNat).fld 0)]).bind fun r7 =>
 ou 0 [(.bool (decide (r6.i > r7.i)))]
 else none
 else
 ou 0 [(.bool false)]).bind fun o5 =>
 sel2 o5.1 (if (gd o5.2 0).b then
 ou 0 [(gd l3 1)]
 else
 ou 0 [(gd l3 0)]) fun _ => none
 else none).bind fun o5 =>
 sel2 o5.1 (ou 0 [(gd o5.2 0), (.int (IntKind.wrap .i64 ((gd l3 1).i + 1)))]) fun _ => none
 else
 ou 1 [(gd l3 0)]) [(.int 0), (.int 0)]).bind fun o3 =>
 sel2 o3.1 (ou 0 [(.pair (gd o3.2 0) (.pair (.bool true) .unit))]) fun _ => none) fun _ => none) := by kernel_rfl
theorem q_laws_sameTexts (a0 a1 : D) : e_laws_sameTexts.F [a0, a1] = rn (
 if ((a0.l.length : Int) != (a1.l.length : Int)) then
 ou 0 [(.bool false)]
 else
 (loopF (fun l2 =>
 if (decide ((gd l2 0).i < (a0.l.length : Int))) then
 if (inb (gd l2 0).i a0.l.length) then
 if (inb (gd l2 0).i a1.l.length) then
 if (!((gd a0.l (gd l2 0).i.toNat).s == (gd a1.l (gd l2 0).i.toNat).s)) then
 ou 1 []
 else
 ou 0 [(.int (IntKind.wrap .i64 ((gd l2 0).i + 1)))]
 else none
 else none
 else
 ou 2 []) [(.int 0)]).bind fun o2 =>
 sel2 o2.1 (ou 0 [(.bool false)]) fun n4 =>
 sel2 n4 (ou 0 [(.bool true)]) fun _ => none) := by kernel_rfl
theorem q_impl_IsBelow (a0 a1 : D) : e_impl_IsBelow.F [a0, a1] = rn (
 ((e_impl_GoodName.F [a0]).bind fun r2 =>
 if (!r2.b) then
 ou 0 [(.bool true)]
 else
 (e_impl_GoodName.F [a1]).bind fun r3 =>
 ou 0 [(.bool (!r3.b))]).bind fun o2 =>
 sel2 o2.1 (if (gd o2.2 0).b then
 ou 0 [(.pair (.bool false) (.pair (.bool false) .unit))]
 else
 (e_impl_isBelow.F [a0, a1]).bind fun r3 =>
 ou 0 [(.pair r3 (.pair (.bool true) .unit))]) fun _ => none) := by kernel_rfl
theorem q_spec_DrawIsDelegated (a0 : D) : e_spec_DrawIsDelegated.F [a0] = rn (
 (e_spec_l1Cur_world.F [(.pair a0 (.pair (.int 0) (.pair (.int 0) .unit)))]).bind fun r1 =>
 (e_spec_l1Cur_of.F [(r1.fld 1), (D.lst ((D.str []) :: ((D.str [99, 111, 109]) :: ((D.str [101, 120, 46, 99, 111, 109]) :: ((D.str [115, 117, 98, 46, 101, 120, 46, 99, 111, 109]) :: ((D.str [120]) :: ([] : List D)))))))]).bind fun r2 =>
 ou 0 [(.pair (r1.fld 0) (.pair (r2.fld 0) .unit))]) := by kernel_rfl
theorem q_impl_IsDelegated (a0 a1 : D) : e_impl_IsDelegated.F [a0, a1] = rn (
 ((e_impl_GoodWorld.F [a0]).bind fun r2 =>
 if (!r2.b) then
 ou 0 [(.bool true)]
 else
 (e_impl_GoodName.F [a1]).bind fun r3 =>
 ou 0 [(.bool (!r3.b))]).bind fun o2 =>
 sel2 o2.1 (if (gd o2.2 0).b then
 ou 0 [(.pair (.bool false) (.pair (.bool false) .unit))]
 else
 (e_impl_World_find.F [a0, a1]).bind fun r3 =>
 if (!(r3.fld 1).b) then
 ou 0 [(.pair (.bool false) (.pair (.bool false) .unit))]
 else
 (e_impl_reachedBy.F [a0, a1]).bind fun r4 =>
 if (inb (IntKind.wrap .i64 ((r4.l.length : Int) - 1)) r4.l.length) then
 ou 0 [(.pair (.bool ((gd r4.l (IntKind.wrap .i64 ((r4.l.length : Int) - 1)).toNat).s == a1.s)) (.pair (.bool true) .unit))]
 else none) fun _ => none) := by kernel_rfl
theorem q_spec_IsDelegated (a0 a1 : D) : e_spec_IsDelegated.F [a0, a1] = rn (
 ((e_spec_GoodWorld.F [a0]).bind fun r2 =>
 if (!r2.b) then
 ou 0 [(.bool true)]
 else
 (e_spec_l11At.F [a0, a1]).bind fun r3 =>
 ou 0 [(.bool (decide (r3.i < 0)))]).bind fun o2 =>
 sel2 o2.1 (if (gd o2.2 0).b then
 ou 0 [(.pair (.bool false) (.pair (.bool false) .unit))]
 else
 (e_spec_ReachedBy.F [a0, a1]).bind fun r3 =>
 if (inb (IntKind.wrap .i64 (((r3.fld 0).l.length : Int) - 1)) (r3.fld 0).l.length) then
 ou 0 [(.pair (.bool ((gd (r3.fld 0).l (IntKind.wrap .i64 (((r3.fld 0).l.length : Int) - 1)).toNat).s == a1.s)) (.pair (.bool true) .unit))]
 else none) fun _ => none) := by kernel_rfl
theorem q_spec_DrawAddZone (a0 : D) : e_spec_DrawAddZone.F [a0] = rn (
 (e_spec_l1Cur_world.F [(.pair a0 (.pair (.int 0) (.pair (.int 0) .unit)))]).bind fun r1 =>
 (e_spec_l1Cur_zone.F [(r1.fld 1)]).bind fun r2 =>
 ou 0 [(.pair (r1.fld 0) (.pair (r2.fld 0) .unit))]) := by kernel_rfl
theorem q_laws_FnReached (a0 a1 : D) : e_laws_FnReached.F [a0, a1] = rn (
 if (decide ((IntKind.wrap .i64 ((a0.l.length : Int) + (a1.l.length : Int))) > 1048576)) then
 ou 0 [(.bool true)]
 else
 (e_spec_DrawReachedBy.F [a0]).bind fun r2 =>
 (e_impl_ReachedBy.F [(r2.fld 0), (r2.fld 1)]).bind fun r3 =>
 (e_spec_ReachedBy.F [(r2.fld 0), (r2.fld 1)]).bind fun r4 =>
 (e_impl_ZoneFor.F [(r2.fld 0), (r2.fld 1)]).bind fun r5 =>
 (e_spec_ZoneFor.F [(r2.fld 0), (r2.fld 1)]).bind fun r6 =>
 (if (!((r3.fld 1).b == (r4.fld 1).b)) then
 ou 0 [(.bool true)]
 else
 (e_laws_sameTexts.F [(r3.fld 0), (r4.fld 0)]).bind fun r7 =>
 if (!r7.b) then
 ou 0 [(.bool true)]
 else
 if (!((r5.fld 1).b == (r6.fld 1).b)) then
 ou 0 [(.bool true)]
 else
 ou 0 [(.bool ((r5.fld 0).i != (r6.fld 0).i))]).bind fun o7 =>
 sel2 o7.1 (if (gd o7.2 0).b then
 ou 0 [(.bool false)]
 else
 (if (r3.fld 1).b then
 (loopF (fun l8 =>
 if (decide ((gd l8 0).i < ((r3.fld 0).l.length : Int))) then
 (if (inb (gd l8 0).i (r3.fld 0).l.length) then
 (e_impl_IsBelow.F [(r2.fld 1), (gd (r3.fld 0).l (gd l8 0).i.toNat)]).bind fun r9 =>
 (if (!(r9.fld 1).b) then
 ou 0 [(.bool true)]
 else
 ou 0 [(.bool (!(r9.fld 0).b))]).bind fun o10 =>
 sel2 o10.1 (if (gd o10.2 0).b then
 ou 1 [(.bool false)]
 else
 if (decide ((gd l8 0).i > 0)) then
 if (inb (IntKind.wrap .i64 ((gd l8 0).i - 1)) (r3.fld 0).l.length) then
 (e_impl_IsBelow.F [(gd (r3.fld 0).l (gd l8 0).i.toNat), (gd (r3.fld 0).l (IntKind.wrap .i64 ((gd l8 0).i - 1)).toNat)]).bind fun r11 =>
 (if (!(r11.fld 1).b) then
 ou 0 [(.bool true)]
 else
 if (!(r11.fld 0).b) then
 ou 0 [(.bool true)]
 else
 ou 0 [(.bool ((gd (r3.fld 0).l (gd l8 0).i.toNat).s == (gd (r3.fld 0).l (IntKind.wrap .i64 ((gd l8 0).i - 1)).toNat).s))]).bind fun o12 =>
 sel2 o12.1 (if (gd o12.2 0).b then
 ou 1 [(.bool false)]
 else
 ou 0 []) fun _ => none
 else none
 else
 ou 0 []) fun _ => none
 else none).bind fun o9 =>
 sel2 o9.1 (ou 0 [(.int (IntKind.wrap .i64 ((gd l8 0).i + 1)))]) fun n18 =>
 sel2 n18 (ou 1 [(gd o9.2 0)]) fun _ => none
 else
 ou 2 []) [(.int 0)]).bind fun o8 =>
 sel2 o8.1 (ou 1 [(gd o8.2 0)]) fun n12 =>
 sel2 n12 (if (inb (r5.fld 0).i ((r2.fld 0).fld 0).l.length) then
 if (inb (IntKind.wrap .i64 (((r3.fld 0).l.length : Int) - 1)) (r3.fld 0).l.length) then
 (e_impl_IsBelow.F [((gd ((r2.fld 0).fld 0).l (r5.fld 0).i.toNat).fld 0), (gd (r3.fld 0).l (IntKind.wrap .i64 (((r3.fld 0).l.length : Int) - 1)).toNat)]).bind fun r8 =>
 (if (!(r5.fld 1).b) then
 ou 0 [(.bool true)]
 else
 if (!(r8.fld 1).b) then
 ou 0 [(.bool true)]
 else
 ou 0 [(.bool (!(r8.fld 0).b))]).bind fun o9 =>
 sel2 o9.1 (if (gd o9.2 0).b then
 ou 1 [(.bool false)]
 else
 ou 0 []) fun _ => none
 else none
 else none) fun _ => none
 else
 ou 0 []).bind fun o8 =>
 sel2 o8.1 ((e_spec_DrawIsDelegated.F [a1]).bind fun r8 =>
 (e_impl_IsDelegated.F [(r8.fld 0), (r8.fld 1)]).bind fun r9 =>
 (e_spec_IsDelegated.F [(r8.fld 0), (r8.fld 1)]).bind fun r10 =>
 (e_spec_DrawAddZone.F [a1]).bind fun r11 =>
 (e_impl_AddZone.F [(r11.fld 0), (r11.fld 1)]).bind fun r12 =>
 (e_spec_AddZone.F [(r11.fld 0), (r11.fld 1)]).bind fun r13 =>
 (if (!((r9.fld 1).b == (r10.fld 1).b)) then
 ou 0 [(.bool true)]
 else
 if (!((r9.fld 0).b == (r10.fld 0).b)) then
 ou 0 [(.bool true)]
 else
 if (!((r12.fld 1).b == (r13.fld 1).b)) then
 ou 0 [(.bool true)]
 else
 ou 0 [(.bool ((((r12.fld 0).fld 0).l.length : Int) != (((r13.fld 0).fld 0).l.length : Int)))]).bind fun o14 =>
 sel2 o14.1 (if (gd o14.2 0).b then
 ou 0 [(.bool false)]
 else
 (if (!(r12.fld 1).b) then
 ou 0 [(.bool true)]
 else
 (e_impl_GoodWorld.F [(r12.fld 0)]).bind fun r15 =>
 if r15.b then
 ou 0 [(.bool ((((r12.fld 0).fld 0).l.length : Int) == (IntKind.wrap .i64 ((((r11.fld 0).fld 0).l.length : Int) + 1))))]
 else
 ou 0 [(.bool false)]).bind fun o15 =>
 sel2 o15.1 (ou 0 [(gd o15.2 0)]) fun _ => none) fun _ => none) fun n8 =>
 sel2 n8 (ou 0 [(gd o8.2 0)]) fun _ => none) fun _ => none) := by kernel_rfl
end Go.Proofs.YtbacjgkmkkphdaaGreatDoor
