/- What each function gives, told as plain code. -/
import Derived.Test.YtkogmjbmbpcbeaaGreatDoorC
set_option linter.unusedSectionVars false
set_option linter.unusedVariables false
set_option linter.unusedSimpArgs false
namespace Go.Proofs.YtkogmjbmbpcbeaaGreatDoor
open Go Go.Own
set_option maxRecDepth 100000
theorem zCS (a0 a1 : D) : z3J.F [a0, a1] = rn (
 if (decide ((IntKind.wrap .i64 (a1.i - ((a0.fld 0).s.length : Int))) < 0)) then
 ou 0 [(.int (-1))]
 else
 if (decide ((IntKind.wrap .i64 ((IntKind.wrap .i64 (a1.i - ((a0.fld 0).s.length : Int))) - ((a0.fld 3).s.length : Int))) < 0)) then
 ou 0 [(.int (-1))]
 else
 ou 0 [(.int (IntKind.wrap .i64 ((IntKind.wrap .i64 (a1.i - ((a0.fld 0).s.length : Int))) - ((a0.fld 3).s.length : Int))))]) := by kernel_rfl
theorem zAe (a0 a1 : D) : z1l.F [a0, a1] = rn (
 if (decide ((IntKind.wrap .i64 (a1.i - (a0.l.length : Int))) < 0)) then
 ou 0 [(.int (-1))]
 else
 (z0f (fun l2 =>
 if (decide ((gd l2 1).i < (a0.l.length : Int))) then
 if (inb (gd l2 1).i a0.l.length) then
 (z3J.F [(gd a0.l (gd l2 1).i.toNat), (gd l2 0)]).bind fun r4 =>
 if (decide (r4.i < 0)) then
 ou 1 [(.int (-1))]
 else
 ou 0 [r4, (.int (IntKind.wrap .i64 ((gd l2 1).i + 1)))]
 else none
 else
 ou 2 [(gd l2 0)]) [(.int (IntKind.wrap .i64 (a1.i - (a0.l.length : Int)))), (.int 0)]).bind fun o2 =>
 sel2 o2.1 (ou 0 [(gd o2.2 0)]) fun n4 =>
 sel2 n4 (ou 0 [(gd o2.2 0)]) fun _ => none) := by kernel_rfl
theorem zDH (a0 a1 : D) : z32.F [a0, a1] = rn (
 if (decide ((IntKind.wrap .i64 (a1.i - ((a0.fld 0).s.length : Int))) < 0)) then
 ou 0 [(.int (-1))]
 else
 (z1l.F [(a0.fld 3), (.int (IntKind.wrap .i64 (a1.i - ((a0.fld 0).s.length : Int))))]).bind fun r2 =>
 if (decide (r2.i < 0)) then
 ou 0 [(.int (-1))]
 else
 ou 0 [r2]) := by kernel_rfl
theorem zCR (a0 a1 : D) : z3I.F [a0, a1] = rn (
 if (decide ((IntKind.wrap .i64 (a1.i - (a0.l.length : Int))) < 0)) then
 ou 0 [(.int (-1))]
 else
 (z0f (fun l2 =>
 if (decide ((gd l2 1).i < (a0.l.length : Int))) then
 if (inb (gd l2 1).i a0.l.length) then
 (z32.F [(gd a0.l (gd l2 1).i.toNat), (gd l2 0)]).bind fun r4 =>
 if (decide (r4.i < 0)) then
 ou 1 [(.int (-1))]
 else
 ou 0 [r4, (.int (IntKind.wrap .i64 ((gd l2 1).i + 1)))]
 else none
 else
 ou 2 [(gd l2 0)]) [(.int (IntKind.wrap .i64 (a1.i - (a0.l.length : Int)))), (.int 0)]).bind fun o2 =>
 sel2 o2.1 (ou 0 [(gd o2.2 0)]) fun n4 =>
 sel2 n4 (ou 0 [(gd o2.2 0)]) fun _ => none) := by kernel_rfl
theorem z7Y (a0 a1 : D) : z1u.F [a0, a1] = rn (
 (z3I.F [(a0.fld 1), a1]).bind fun r2 =>
 if (decide (r2.i < 0)) then
 ou 0 [(.int (-1))]
 else
 ou 0 [r2]) := by kernel_rfl
theorem zCU (a0 : D) : z3L.F [a0] = rn (
 ou 0 [(.pair (a0.fld 0) (.pair (a0.fld 1) (.pair (a0.fld 2) (.pair (a0.fld 3) .unit))))]) := by kernel_rfl
theorem zAf (a0 : D) : z0l.F [a0] = rn (
 if (makeOk 48 (a0.l.length : Int)) then
 (z0f (fun l1 =>
 if (decide ((gd l1 1).i < (a0.l.length : Int))) then
 if (inb (gd l1 1).i a0.l.length) then
 (z3L.F [(gd a0.l (gd l1 1).i.toNat)]).bind fun r3 =>
 if (inb (gd l1 1).i (gd l1 0).l.length) then
 ou 0 [(D.lst ((gd l1 0).l.set (gd l1 1).i.toNat r3)), (.int (IntKind.wrap .i64 ((gd l1 1).i + 1)))]
 else none
 else none
 else
 ou 1 [(gd l1 0)]) [(D.lst (List.replicate (a0.l.length : Int).toNat ((.pair (.str []) (.pair (.int 0) (.pair (.int 0) (.pair (.str []) .unit)))) : D))), (.int 0)]).bind fun o1 =>
 sel2 o1.1 (ou 0 [(gd o1.2 0)]) fun _ => none
 else none) := by kernel_rfl
theorem zDJ (a0 : D) : z33.F [a0] = rn (
 (z0l.F [(a0.fld 3)]).bind fun r1 =>
 ou 0 [(.pair (a0.fld 0) (.pair (a0.fld 1) (.pair (a0.fld 2) (.pair r1 (.pair (a0.fld 4) (.pair (a0.fld 5) .unit))))))]) := by kernel_rfl
theorem zCT (a0 : D) : z3K.F [a0] = rn (
 if (makeOk 72 (a0.l.length : Int)) then
 (z0f (fun l1 =>
 if (decide ((gd l1 1).i < (a0.l.length : Int))) then
 if (inb (gd l1 1).i a0.l.length) then
 (z33.F [(gd a0.l (gd l1 1).i.toNat)]).bind fun r3 =>
 if (inb (gd l1 1).i (gd l1 0).l.length) then
 ou 0 [(D.lst ((gd l1 0).l.set (gd l1 1).i.toNat r3)), (.int (IntKind.wrap .i64 ((gd l1 1).i + 1)))]
 else none
 else none
 else
 ou 1 [(gd l1 0)]) [(D.lst (List.replicate (a0.l.length : Int).toNat ((.pair (.str []) (.pair (.int 0) (.pair (.bool false) (.pair (D.lst []) (.pair (.int 0) (.pair (.int 0) .unit)))))) : D))), (.int 0)]).bind fun o1 =>
 sel2 o1.1 (ou 0 [(gd o1.2 0)]) fun _ => none
 else none) := by kernel_rfl
theorem zDI (a0 : D) : z0n.F [a0] = rn (
 (z3K.F [(a0.fld 1)]).bind fun r1 =>
 ou 0 [(.pair (a0.fld 0) (.pair r1 .unit))]) := by kernel_rfl
theorem zH1 (a0 a1 a2 : D) : z0X.F [a0, a1, a2] = rn (
 (if (decide (a0.i ≥ a1.i)) then
 ou 0 [(.bool (decide (a0.i ≤ a2.i)))]
 else
 ou 0 [(.bool false)]).bind fun o3 =>
 sel2 o3.1 (ou 0 [(gd o3.2 0)]) fun _ => none) := by kernel_rfl
theorem zDO (a0 a1 : D) : z1w.F [a0, a1] = rn (
 (z0f (fun l2 =>
 if (decide ((gd l2 2).i < (a0.s.length : Int))) then
 (if (inb (gd l2 2).i a0.s.length) then
 if ((byteAt a0.s (gd l2 2).i.toNat : Int) == a1.i) then
 if (slOk (gd l2 1).i (gd l2 2).i (a0.s.length : Int)) then
 if (appOk 16 (gd l2 0).l ((.str ((a0.s.take (gd l2 2).i.toNat).drop (gd l2 1).i.toNat)) :: ([] : List D))) then
 ou 0 [(D.lst ((gd l2 0).l ++ ((.str ((a0.s.take (gd l2 2).i.toNat).drop (gd l2 1).i.toNat)) :: ([] : List D)))), (.int (IntKind.wrap .i64 ((gd l2 2).i + 1)))]
 else none
 else none
 else
 ou 0 [(gd l2 0), (gd l2 1)]
 else none).bind fun o5 =>
 sel2 o5.1 (ou 0 [(gd o5.2 0), (gd o5.2 1), (.int (IntKind.wrap .i64 ((gd l2 2).i + 1)))]) fun _ => none
 else
 ou 1 [(gd l2 0), (gd l2 1)]) [(D.lst []), (.int 0), (.int 0)]).bind fun o2 =>
 sel2 o2.1 (if (slOk (gd o2.2 1).i (a0.s.length : Int) (a0.s.length : Int)) then
 if (appOk 16 (gd o2.2 0).l ((.str ((a0.s.take (a0.s.length : Int).toNat).drop (gd o2.2 1).i.toNat)) :: ([] : List D))) then
 ou 0 [(D.lst ((gd o2.2 0).l ++ ((.str ((a0.s.take (a0.s.length : Int).toNat).drop (gd o2.2 1).i.toNat)) :: ([] : List D))))]
 else none
 else none) fun _ => none) := by kernel_rfl
theorem zDN (a0 : D) : z2R.F [a0] = rn (
 if (a0.s == ([42] : List UInt8)) then
 ou 0 [(.bool true)]
 else
 (z0f (fun l1 =>
 if (decide ((gd l1 0).i < (a0.s.length : Int))) then
 if (inb (gd l1 0).i a0.s.length) then
 (if (decide ((byteAt a0.s (gd l1 0).i.toNat : Int) ≥ 97)) then
 if (decide ((byteAt a0.s (gd l1 0).i.toNat : Int) ≤ 122)) then
 ou 0 [(.bool (!true))]
 else
 if (decide ((byteAt a0.s (gd l1 0).i.toNat : Int) ≥ 48)) then
 if (decide ((byteAt a0.s (gd l1 0).i.toNat : Int) ≤ 57)) then
 ou 0 [(.bool (!true))]
 else
 if ((byteAt a0.s (gd l1 0).i.toNat : Int) == 45) then
 ou 0 [(.bool (!true))]
 else
 ou 0 [(.bool (!((byteAt a0.s (gd l1 0).i.toNat : Int) == 95)))]
 else
 if ((byteAt a0.s (gd l1 0).i.toNat : Int) == 45) then
 ou 0 [(.bool (!true))]
 else
 ou 0 [(.bool (!((byteAt a0.s (gd l1 0).i.toNat : Int) == 95)))]
 else
 if (decide ((byteAt a0.s (gd l1 0).i.toNat : Int) ≥ 48)) then
 if (decide ((byteAt a0.s (gd l1 0).i.toNat : Int) ≤ 57)) then
 ou 0 [(.bool (!true))]
 else
 if ((byteAt a0.s (gd l1 0).i.toNat : Int) == 45) then
 ou 0 [(.bool (!true))]
 else
 ou 0 [(.bool (!((byteAt a0.s (gd l1 0).i.toNat : Int) == 95)))]
 else
 if ((byteAt a0.s (gd l1 0).i.toNat : Int) == 45) then
 ou 0 [(.bool (!true))]
 else
 ou 0 [(.bool (!((byteAt a0.s (gd l1 0).i.toNat : Int) == 95)))]).bind fun o2 =>
 sel2 o2.1 (if (gd o2.2 0).b then
 ou 1 []
 else
 ou 0 [(.int (IntKind.wrap .i64 ((gd l1 0).i + 1)))]) fun _ => none
 else none
 else
 ou 2 []) [(.int 0)]).bind fun o1 =>
 sel2 o1.1 (ou 0 [(.bool false)]) fun n4 =>
 sel2 n4 ((z0X.F [(.int (a0.s.length : Int)), (.int 1), (.int 20)]).bind fun r1 =>
 ou 0 [r1]) fun _ => none) := by kernel_rfl
theorem zCW (a0 : D) : z0m.F [a0] = rn (
 if (a0.s == ([] : List UInt8)) then
 ou 0 [(.pair (D.lst []) (.pair (.bool true) .unit))]
 else
 (z1w.F [a0, (.int 46)]).bind fun r1 =>
 (z0f (fun l2 =>
 if (decide ((gd l2 0).i < (r1.l.length : Int))) then
 if (inb (gd l2 0).i r1.l.length) then
 (z2R.F [(gd r1.l (gd l2 0).i.toNat)]).bind fun r3 =>
 if (!r3.b) then
 ou 1 []
 else
 ou 0 [(.int (IntKind.wrap .i64 ((gd l2 0).i + 1)))]
 else none
 else
 ou 2 []) [(.int 0)]).bind fun o2 =>
 sel2 o2.1 (ou 0 [(.pair (D.lst []) (.pair (.bool false) .unit))]) fun n4 =>
 sel2 n4 ((if (decide ((a0.s.length : Int) ≤ 60)) then
 ou 0 [r1, (.bool (decide ((r1.l.length : Int) ≤ 8)))]
 else
 ou 0 [r1, (.bool false)]).bind fun o2 =>
 sel2 o2.1 (ou 0 [(.pair (gd o2.2 0) (.pair (gd o2.2 1) .unit))]) fun _ => none) fun _ => none) := by kernel_rfl
theorem zCV (a0 : D) : z1K.F [a0] = rn (
 (z0m.F [a0]).bind fun r1 =>
 ou 0 [(r1.fld 1)]) := by kernel_rfl
theorem zFt (a0 a1 : D) : z4I.F [a0, a1] = rn (
 (z0f (fun l2 =>
 if (decide ((gd l2 0).i < (a0.l.length : Int))) then
 if (inb (gd l2 0).i a0.l.length) then
 if ((gd a0.l (gd l2 0).i.toNat).i == a1.i) then
 ou 1 [(.bool true)]
 else
 ou 0 [(.int (IntKind.wrap .i64 ((gd l2 0).i + 1)))]
 else none
 else
 ou 2 []) [(.int 0)]).bind fun o2 =>
 sel2 o2.1 (ou 0 [(gd o2.2 0)]) fun n2 =>
 sel2 n2 (ou 0 [(.bool false)]) fun _ => none) := by kernel_rfl
theorem zEh (a0 : D) : z2r.F [a0] = rn (
 (z4I.F [(D.lst ((.int 1) :: ((.int 2) :: ((.int 5) :: ((.int 6) :: ((.int 15) :: ((.int 16) :: ([] : List D)))))))), a0]).bind fun r1 =>
 ou 0 [r1]) := by kernel_rfl
theorem zAi (a0 a1 : D) : z1n.F [a0, a1] = rn (
 (z0m.F [a0]).bind fun r2 =>
 (z0m.F [a1]).bind fun r3 =>
 (z0f (fun l4 =>
 (if (decide ((gd l4 0).i ≤ ((r2.fld 0).l.length : Int))) then
 ou 0 [(.bool (decide ((gd l4 0).i ≤ ((r3.fld 0).l.length : Int))))]
 else
 ou 0 [(.bool false)]).bind fun o5 =>
 sel2 o5.1 (if (gd o5.2 0).b then
 if (inb (IntKind.wrap .i64 (((r2.fld 0).l.length : Int) - (gd l4 0).i)) (r2.fld 0).l.length) then
 if (inb (IntKind.wrap .i64 (((r3.fld 0).l.length : Int) - (gd l4 0).i)) (r3.fld 0).l.length) then
 if (Op.bytesLess (gd (r2.fld 0).l (IntKind.wrap .i64 (((r2.fld 0).l.length : Int) - (gd l4 0).i)).toNat).s (gd (r3.fld 0).l (IntKind.wrap .i64 (((r3.fld 0).l.length : Int) - (gd l4 0).i)).toNat).s) then
 ou 1 [(.int (-1))]
 else
 if (!(Op.bytesLess (gd (r2.fld 0).l (IntKind.wrap .i64 (((r2.fld 0).l.length : Int) - (gd l4 0).i)).toNat).s (gd (r3.fld 0).l (IntKind.wrap .i64 (((r3.fld 0).l.length : Int) - (gd l4 0).i)).toNat).s || (gd (r2.fld 0).l (IntKind.wrap .i64 (((r2.fld 0).l.length : Int) - (gd l4 0).i)).toNat).s == (gd (r3.fld 0).l (IntKind.wrap .i64 (((r3.fld 0).l.length : Int) - (gd l4 0).i)).toNat).s)) then
 ou 1 [(.int 1)]
 else
 ou 0 [(.int (IntKind.wrap .i64 ((gd l4 0).i + 1)))]
 else none
 else none
 else
 ou 2 []) fun _ => none) [(.int 1)]).bind fun o4 =>
 sel2 o4.1 (ou 0 [(gd o4.2 0)]) fun n2 =>
 sel2 n2 (if (decide (((r2.fld 0).l.length : Int) < ((r3.fld 0).l.length : Int))) then
 ou 0 [(.int (-1))]
 else
 if (decide (((r2.fld 0).l.length : Int) > ((r3.fld 0).l.length : Int))) then
 ou 0 [(.int 1)]
 else
 ou 0 [(.int 0)]) fun _ => none) := by kernel_rfl
theorem zDL (a0 a1 : D) : z0q.F [a0, a1] = rn (
 (z1n.F [(a0.fld 0), (a1.fld 0)]).bind fun r2 =>
 (if (decide (r2.i < 0)) then
 ou 0 [(.bool true)]
 else
 if (r2.i == 0) then
 ou 0 [(.bool (decide ((a0.fld 1).i < (a1.fld 1).i)))]
 else
 ou 0 [(.bool false)]).bind fun o3 =>
 sel2 o3.1 (ou 0 [(gd o3.2 0)]) fun _ => none) := by kernel_rfl
theorem zFu (a0 : D) : z1v.F [a0] = rn (
 ((z0X.F [(.int (a0.s.length : Int)), (.int 1), (.int 10)]).bind fun r1 =>
 if (!r1.b) then
 ou 0 [(.bool true)]
 else
 if (inb 0 a0.s.length) then
 if ((byteAt a0.s 0 : Int) == 48) then
 ou 0 [(.bool (decide ((a0.s.length : Int) > 1)))]
 else
 ou 0 [(.bool false)]
 else none).bind fun o1 =>
 sel2 o1.1 (if (gd o1.2 0).b then
 ou 0 [(.int (-1))]
 else
 (z0f (fun l2 =>
 if (decide ((gd l2 1).i < (a0.s.length : Int))) then
 (if (inb (gd l2 1).i a0.s.length) then
 if (decide ((byteAt a0.s (gd l2 1).i.toNat : Int) < 48)) then
 ou 0 [(.bool true)]
 else
 ou 0 [(.bool (decide ((byteAt a0.s (gd l2 1).i.toNat : Int) > 57)))]
 else none).bind fun o4 =>
 sel2 o4.1 (if (gd o4.2 0).b then
 ou 1 [(.int (-1))]
 else
 if (inb (gd l2 1).i a0.s.length) then
 ou 0 [(.int (IntKind.wrap .i64 ((IntKind.wrap .i64 (10 * (gd l2 0).i)) + (IntKind.wrap .i64 (IntKind.wrap .u8 ((byteAt a0.s (gd l2 1).i.toNat : Int) - 48)))))), (.int (IntKind.wrap .i64 ((gd l2 1).i + 1)))]
 else none) fun _ => none
 else
 ou 2 [(gd l2 0)]) [(.int 0), (.int 0)]).bind fun o2 =>
 sel2 o2.1 (ou 0 [(gd o2.2 0)]) fun n6 =>
 sel2 n6 (ou 0 [(gd o2.2 0)]) fun _ => none) fun _ => none) := by kernel_rfl
theorem z4u (a0 a1 : D) : z0x.F [a0, a1] = rn (
 if (makeOk 1 a1.i) then
 (z0f (fun l2 =>
 if (decide ((gd l2 2).i ≥ 0)) then
 if (inb (gd l2 2).i (gd l2 1).l.length) then
 if (decide (0 ≤ 8)) then
 ou 0 [(.int ((gd l2 0).i.fdiv (2 ^ min 8 (IntKind.bits .i64)))), (D.lst ((gd l2 1).l.set (gd l2 2).i.toNat (.int (IntKind.wrap .u8 (gd l2 0).i)))), (.int (IntKind.wrap .i64 ((gd l2 2).i - 1)))]
 else none
 else none
 else
 ou 1 [(gd l2 1)]) [a0, (D.lst (List.replicate a1.i.toNat ((.int 0) : D))), (.int (IntKind.wrap .i64 (a1.i - 1)))]).bind fun o2 =>
 sel2 o2.1 (ou 0 [(.str (z0c (gd o2.2 0).l))]) fun _ => none
 else none) := by kernel_rfl
theorem zCX (a0 : D) : z2i.F [a0] = rn (
 (z0m.F [a0]).bind fun r1 =>
 (z0f (fun l2 =>
 if (decide ((gd l2 1).i < ((r1.fld 0).l.length : Int))) then
 (if (inb (gd l2 1).i (r1.fld 0).l.length) then
 if (gd l2 0).b then
 ou 0 [(.bool (!((gd (r1.fld 0).l (gd l2 1).i.toNat).s == ([42] : List UInt8))))]
 else
 ou 0 [(.bool false)]
 else none).bind fun o4 =>
 sel2 o4.1 (ou 0 [(gd o4.2 0), (.int (IntKind.wrap .i64 ((gd l2 1).i + 1)))]) fun _ => none
 else
 ou 1 [(gd l2 0)]) [(r1.fld 1), (.int 0)]).bind fun o2 =>
 sel2 o2.1 ((if (gd o2.2 0).b then
 ou 0 [(.bool (!(a0.s == ([] : List UInt8))))]
 else
 ou 0 [(.bool false)]).bind fun o3 =>
 sel2 o3.1 (ou 0 [(gd o3.2 0)]) fun _ => none) fun _ => none) := by kernel_rfl
theorem z7Z (a0 : D) : z2S.F [a0] = rn (
 (z0m.F [a0]).bind fun r1 =>
 (z0f (fun l2 =>
 if (decide ((gd l2 1).i < ((r1.fld 0).l.length : Int))) then
 if (inb (gd l2 1).i (r1.fld 0).l.length) then
 if (catOk (z0c ((.int (IntKind.wrap .u8 ((gd (r1.fld 0).l (gd l2 1).i.toNat).s.length : Int))) :: ([] : List D))) (gd (r1.fld 0).l (gd l2 1).i.toNat).s) then
 if (catOk (gd l2 0).s ((z0c ((.int (IntKind.wrap .u8 ((gd (r1.fld 0).l (gd l2 1).i.toNat).s.length : Int))) :: ([] : List D))) ++ (gd (r1.fld 0).l (gd l2 1).i.toNat).s)) then
 ou 0 [(.str ((gd l2 0).s ++ ((z0c ((.int (IntKind.wrap .u8 ((gd (r1.fld 0).l (gd l2 1).i.toNat).s.length : Int))) :: ([] : List D))) ++ (gd (r1.fld 0).l (gd l2 1).i.toNat).s))), (.int (IntKind.wrap .i64 ((gd l2 1).i + 1)))]
 else none
 else none
 else none
 else
 ou 1 [(gd l2 0)]) [(D.str []), (.int 0)]).bind fun o2 =>
 sel2 o2.1 (if (catOk (gd o2.2 0).s ([0] : List UInt8)) then
 ou 0 [(.str ((gd o2.2 0).s ++ ([0] : List UInt8)))]
 else none) fun _ => none) := by kernel_rfl
theorem z4F (a0 a1 : D) : z0z.F [a0, a1] = rn (
 if (a0.i == 1) then
 (z1w.F [a1, (.int 46)]).bind fun r2 =>
 (z0f (fun l3 =>
 if (decide ((gd l3 1).i < (r2.l.length : Int))) then
 if (inb (gd l3 1).i r2.l.length) then
 (z1v.F [(gd r2.l (gd l3 1).i.toNat)]).bind fun r5 =>
 (z0X.F [r5, (.int 0), (.int 255)]).bind fun r6 =>
 if (!r6.b) then
 ou 1 []
 else
 (z0x.F [r5, (.int 1)]).bind fun r7 =>
 if (catOk (gd l3 0).s r7.s) then
 ou 0 [(.str ((gd l3 0).s ++ r7.s)), (.int (IntKind.wrap .i64 ((gd l3 1).i + 1)))]
 else none
 else none
 else
 ou 2 [(gd l3 0)]) [(D.str []), (.int 0)]).bind fun o3 =>
 sel2 o3.1 (ou 0 [(.pair (D.str []) (.pair (.bool false) .unit))]) fun n4 =>
 sel2 n4 (ou 0 [(.pair (gd o3.2 0) (.pair (.bool ((r2.l.length : Int) == 4)) .unit))]) fun _ => none
 else
 (if (a0.i == 2) then
 ou 0 [(.bool (a0.i == 2))]
 else
 ou 0 [(.bool (a0.i == 5))]).bind fun o2 =>
 sel2 o2.1 (if (gd o2.2 0).b then
 (z2i.F [a1]).bind fun r3 =>
 if (!r3.b) then
 ou 0 [(.pair (D.str []) (.pair (.bool false) .unit))]
 else
 (z2S.F [a1]).bind fun r4 =>
 ou 0 [(.pair r4 (.pair (.bool true) .unit))]
 else
 if (a0.i == 6) then
 (z1v.F [a1]).bind fun r3 =>
 (z0x.F [r3, (.int 4)]).bind fun r4 =>
 (z0X.F [r3, (.int 0), (.int 4294967295)]).bind fun r5 =>
 ou 0 [(.pair r4 (.pair r5 .unit))]
 else
 if (a0.i == 15) then
 (z1w.F [a1, (.int 32)]).bind fun r3 =>
 (if ((r3.l.length : Int) != 2) then
 ou 0 [(.bool true)]
 else
 if (inb 0 r3.l.length) then
 (z1v.F [(gd r3.l 0)]).bind fun r4 =>
 (z0X.F [r4, (.int 0), (.int 65535)]).bind fun r5 =>
 if (!r5.b) then
 ou 0 [(.bool true)]
 else
 if (inb 1 r3.l.length) then
 (z2i.F [(gd r3.l 1)]).bind fun r6 =>
 ou 0 [(.bool (!r6.b))]
 else none
 else none).bind fun o4 =>
 sel2 o4.1 (if (gd o4.2 0).b then
 ou 0 [(.pair (D.str []) (.pair (.bool false) .unit))]
 else
 if (inb 0 r3.l.length) then
 (z1v.F [(gd r3.l 0)]).bind fun r5 =>
 (z0x.F [r5, (.int 2)]).bind fun r6 =>
 if (inb 1 r3.l.length) then
 (z2S.F [(gd r3.l 1)]).bind fun r7 =>
 if (catOk r6.s r7.s) then
 ou 0 [(.pair (.str (r6.s ++ r7.s)) (.pair (.bool true) .unit))]
 else none
 else none
 else none) fun _ => none
 else
 if (a0.i == 16) then
 (z0f (fun l3 =>
 if (decide ((gd l3 0).i < (a1.s.length : Int))) then
 (if (inb (gd l3 0).i a1.s.length) then
 if (decide ((byteAt a1.s (gd l3 0).i.toNat : Int) < 32)) then
 ou 0 [(.bool true)]
 else
 ou 0 [(.bool (decide ((byteAt a1.s (gd l3 0).i.toNat : Int) > 126)))]
 else none).bind fun o4 =>
 sel2 o4.1 (if (gd o4.2 0).b then
 ou 1 [(D.str []), (.bool false)]
 else
 ou 0 [(.int (IntKind.wrap .i64 ((gd l3 0).i + 1)))]) fun _ => none
 else
 ou 2 []) [(.int 0)]).bind fun o3 =>
 sel2 o3.1 (ou 0 [(.pair (gd o3.2 0) (.pair (gd o3.2 1) .unit))]) fun n14 =>
 sel2 n14 (if (catOk (z0c ((.int (IntKind.wrap .u8 (a1.s.length : Int))) :: ([] : List D))) a1.s) then
 ou 0 [(.pair (.str ((z0c ((.int (IntKind.wrap .u8 (a1.s.length : Int))) :: ([] : List D))) ++ a1.s)) (.pair (.bool (decide ((a1.s.length : Int) ≤ 30))) .unit))]
 else none) fun _ => none
 else
 ou 0 [(.pair (D.str []) (.pair (.bool false) .unit))]) fun _ => none) := by kernel_rfl
theorem z9f (a0 : D) : z2h.F [a0] = rn (
 (z0z.F [(a0.fld 1), (a0.fld 3)]).bind fun r1 =>
 (if (r1.fld 1).b then
 (z1K.F [(a0.fld 0)]).bind fun r2 =>
 if r2.b then
 (z0X.F [(a0.fld 2), (.int 0), (.int 100000)]).bind fun r3 =>
 ou 0 [r3]
 else
 ou 0 [(.bool false)]
 else
 ou 0 [(.bool false)]).bind fun o2 =>
 sel2 o2.1 (ou 0 [(gd o2.2 0)]) fun _ => none) := by kernel_rfl
theorem zEg (a0 : D) : z2q.F [a0] = rn (
 if a0.b then
 ou 0 [(.int (-1))]
 else
 ou 0 [(.int 1)]) := by kernel_rfl
theorem zAj (a0 a1 : D) : z1P.F [a0, a1] = rn (
 (z1n.F [(a0.fld 0), (a1.fld 0)]).bind fun r2 =>
 if (r2.i != 0) then
 ou 0 [r2]
 else
 (z0z.F [(a0.fld 1), (a0.fld 3)]).bind fun r3 =>
 (z0z.F [(a1.fld 1), (a1.fld 3)]).bind fun r4 =>
 if ((a0.fld 1).i != (a1.fld 1).i) then
 (z2q.F [(.bool (decide ((a0.fld 1).i < (a1.fld 1).i)))]).bind fun r5 =>
 ou 0 [r5]
 else
 if (!((r3.fld 0).s == (r4.fld 0).s)) then
 (z2q.F [(.bool (Op.bytesLess (r3.fld 0).s (r4.fld 0).s))]).bind fun r5 =>
 ou 0 [r5]
 else
 if ((a0.fld 2).i != (a1.fld 2).i) then
 (z2q.F [(.bool (decide ((a0.fld 2).i < (a1.fld 2).i)))]).bind fun r5 =>
 ou 0 [r5]
 else
 ou 0 [(.int 0)]) := by kernel_rfl
theorem zDM (a0 : D) : z2Q.F [a0] = rn (
 (z0f (fun l1 =>
 if (decide ((gd l1 0).i < (a0.l.length : Int))) then
 if (inb (gd l1 0).i a0.l.length) then
 ((z2h.F [(gd a0.l (gd l1 0).i.toNat)]).bind fun r2 =>
 if (!r2.b) then
 ou 0 [(.bool true)]
 else
 if (inb 0 a0.l.length) then
 if (!(((gd a0.l (gd l1 0).i.toNat).fld 0).s == ((gd a0.l 0).fld 0).s)) then
 ou 0 [(.bool true)]
 else
 if (((gd a0.l (gd l1 0).i.toNat).fld 1).i != ((gd a0.l 0).fld 1).i) then
 ou 0 [(.bool true)]
 else
 if (((gd a0.l (gd l1 0).i.toNat).fld 2).i != ((gd a0.l 0).fld 2).i) then
 ou 0 [(.bool true)]
 else
 if (decide ((gd l1 0).i > 0)) then
 if (inb (IntKind.wrap .i64 ((gd l1 0).i - 1)) a0.l.length) then
 (z1P.F [(gd a0.l (IntKind.wrap .i64 ((gd l1 0).i - 1)).toNat), (gd a0.l (gd l1 0).i.toNat)]).bind fun r3 =>
 ou 0 [(.bool (decide (r3.i ≥ 0)))]
 else none
 else
 ou 0 [(.bool false)]
 else none).bind fun o2 =>
 sel2 o2.1 (if (gd o2.2 0).b then
 ou 1 []
 else
 ou 0 [(.int (IntKind.wrap .i64 ((gd l1 0).i + 1)))]) fun _ => none
 else none
 else
 ou 2 []) [(.int 0)]).bind fun o1 =>
 sel2 o1.1 (ou 0 [(.bool false)]) fun n2 =>
 sel2 n2 ((z0X.F [(.int (a0.l.length : Int)), (.int 1), (.int 12)]).bind fun r1 =>
 ou 0 [r1]) fun _ => none) := by kernel_rfl
theorem zAg (a0 : D) : z1m.F [a0] = rn (
 ((z0X.F [(a0.fld 0), (.int 1), (.int 1000000000)]).bind fun r1 =>
 if (!r1.b) then
 ou 0 [(.bool true)]
 else
 ou 0 [(.bool (decide (((a0.fld 1).l.length : Int) > 20)))]).bind fun o1 =>
 sel2 o1.1 (if (gd o1.2 0).b then
 ou 0 [(.bool false)]
 else
 (z0f (fun l2 =>
 if (decide ((gd l2 0).i < ((a0.fld 1).l.length : Int))) then
 (if (inb (gd l2 0).i (a0.fld 1).l.length) then
 ((z1K.F [((gd (a0.fld 1).l (gd l2 0).i.toNat).fld 0)]).bind fun r3 =>
 if (!r3.b) then
 ou 0 [(.bool true)]
 else
 (z2r.F [((gd (a0.fld 1).l (gd l2 0).i.toNat).fld 1)]).bind fun r4 =>
 if (!r4.b) then
 ou 0 [(.bool true)]
 else
 (z0X.F [((gd (a0.fld 1).l (gd l2 0).i.toNat).fld 4), (.int (IntKind.wrap .i64 ((a0.fld 0).i + 1))), (.int (IntKind.wrap .i64 ((a0.fld 0).i + 100000)))]).bind fun r5 =>
 if (!r5.b) then
 ou 0 [(.bool true)]
 else
 (z0X.F [((gd (a0.fld 1).l (gd l2 0).i.toNat).fld 5), (.int 1), (a0.fld 0)]).bind fun r6 =>
 if (!r6.b) then
 ou 0 [(.bool true)]
 else
 if (decide ((gd l2 0).i > 0)) then
 if (inb (IntKind.wrap .i64 ((gd l2 0).i - 1)) (a0.fld 1).l.length) then
 (z0q.F [(gd (a0.fld 1).l (IntKind.wrap .i64 ((gd l2 0).i - 1)).toNat), (gd (a0.fld 1).l (gd l2 0).i.toNat)]).bind fun r7 =>
 ou 0 [(.bool (!r7.b))]
 else none
 else
 ou 0 [(.bool false)]).bind fun o3 =>
 sel2 o3.1 (if (gd o3.2 0).b then
 ou 1 [(.bool false)]
 else
 if ((gd (a0.fld 1).l (gd l2 0).i.toNat).fld 2).b then
 if (decide ((((gd (a0.fld 1).l (gd l2 0).i.toNat).fld 3).l.length : Int) > 0)) then
 ou 1 [(.bool false)]
 else
 ou 0 []
 else
 ((z2Q.F [((gd (a0.fld 1).l (gd l2 0).i.toNat).fld 3)]).bind fun r4 =>
 if (!r4.b) then
 ou 0 [(.bool true)]
 else
 if (inb 0 ((gd (a0.fld 1).l (gd l2 0).i.toNat).fld 3).l.length) then
 if (!(((gd ((gd (a0.fld 1).l (gd l2 0).i.toNat).fld 3).l 0).fld 0).s == ((gd (a0.fld 1).l (gd l2 0).i.toNat).fld 0).s)) then
 ou 0 [(.bool true)]
 else
 ou 0 [(.bool (((gd ((gd (a0.fld 1).l (gd l2 0).i.toNat).fld 3).l 0).fld 1).i != ((gd (a0.fld 1).l (gd l2 0).i.toNat).fld 1).i))]
 else none).bind fun o4 =>
 sel2 o4.1 (if (gd o4.2 0).b then
 ou 1 [(.bool false)]
 else
 ou 0 []) fun _ => none) fun _ => none
 else none).bind fun o3 =>
 sel2 o3.1 (ou 0 [(.int (IntKind.wrap .i64 ((gd l2 0).i + 1)))]) fun n12 =>
 sel2 n12 (ou 1 [(gd o3.2 0)]) fun _ => none
 else
 ou 2 []) [(.int 0)]).bind fun o2 =>
 sel2 o2.1 (ou 0 [(gd o2.2 0)]) fun n6 =>
 sel2 n6 (ou 0 [(.bool true)]) fun _ => none) fun _ => none) := by kernel_rfl
theorem z8l (a0 : D) : z1h.F [a0] = rn (
 if (appOk 48 ([] : List D) (a0.fld 3).l) then
 ou 0 [(a0.setFld 3 (D.lst (([] : List D) ++ (a0.fld 3).l)))]
 else none) := by kernel_rfl
theorem zEe (a0 : D) : z3P.F [a0] = rn (
 (z0f (fun l1 =>
 if (decide ((gd l1 1).i < ((a0.fld 1).l.length : Int))) then
 if (inb (gd l1 1).i (a0.fld 1).l.length) then
 (z1h.F [(gd (a0.fld 1).l (gd l1 1).i.toNat)]).bind fun r3 =>
 if (appOk 72 (gd l1 0).l (r3 :: ([] : List D))) then
 ou 0 [(D.lst ((gd l1 0).l ++ (r3 :: ([] : List D)))), (.int (IntKind.wrap .i64 ((gd l1 1).i + 1)))]
 else none
 else none
 else
 ou 1 [(gd l1 0)]) [(D.lst []), (.int 0)]).bind fun o1 =>
 sel2 o1.1 (ou 0 [(a0.setFld 1 (gd o1.2 0))]) fun _ => none) := by kernel_rfl
theorem zEf (a0 a1 : D) : z2N.F [a0, a1] = rn (
 (z0f (fun l2 =>
 (if (decide ((gd l2 0).i < ((a0.fld 1).l.length : Int))) then
 if (inb (gd l2 0).i (a0.fld 1).l.length) then
 (z0q.F [(gd (a0.fld 1).l (gd l2 0).i.toNat), (a1.setFld 5 (a0.fld 0))]).bind fun r3 =>
 ou 0 [r3]
 else none
 else
 ou 0 [(.bool false)]).bind fun o3 =>
 sel2 o3.1 (if (gd o3.2 0).b then
 ou 0 [(.int (IntKind.wrap .i64 ((gd l2 0).i + 1)))]
 else
 ou 1 [(gd l2 0)]) fun _ => none) [(.int 0)]).bind fun o2 =>
 sel2 o2.1 (if (slOk 0 (gd o2.2 0).i ((a0.fld 1).l.length : Int)) then
 if (appOk 72 ([] : List D) (((a0.fld 1).l.take (gd o2.2 0).i.toNat).drop 0)) then
 (z1h.F [(a1.setFld 5 (a0.fld 0))]).bind fun r3 =>
 if (appOk 72 (([] : List D) ++ (((a0.fld 1).l.take (gd o2.2 0).i.toNat).drop 0)) (r3 :: ([] : List D))) then
 ((if (decide ((gd o2.2 0).i < ((a0.fld 1).l.length : Int))) then
 if (inb (gd o2.2 0).i (a0.fld 1).l.length) then
 if (((gd (a0.fld 1).l (gd o2.2 0).i.toNat).fld 0).s == (a1.fld 0).s) then
 ou 0 [(.bool (((gd (a0.fld 1).l (gd o2.2 0).i.toNat).fld 1).i == (a1.fld 1).i))]
 else
 ou 0 [(.bool false)]
 else none
 else
 ou 0 [(.bool false)]).bind fun o4 =>
 sel2 o4.1 (if (gd o4.2 0).b then
 ou 0 [(.int (IntKind.wrap .i64 ((gd o2.2 0).i + 1)))]
 else
 ou 0 [(gd o2.2 0)]) fun _ => none).bind fun o4 =>
 sel2 o4.1 (if (slOk (gd o4.2 0).i ((a0.fld 1).l.length : Int) ((a0.fld 1).l.length : Int)) then
 if (appOk 72 ((([] : List D) ++ (((a0.fld 1).l.take (gd o2.2 0).i.toNat).drop 0)) ++ (r3 :: ([] : List D))) (((a0.fld 1).l.take ((a0.fld 1).l.length : Int).toNat).drop (gd o4.2 0).i.toNat)) then
 (if (decide (((((([] : List D) ++ (((a0.fld 1).l.take (gd o2.2 0).i.toNat).drop 0)) ++ (r3 :: ([] : List D))) ++ (((a0.fld 1).l.take ((a0.fld 1).l.length : Int).toNat).drop (gd o4.2 0).i.toNat)).length : Int) > 20)) then
 (z0f (fun l5 =>
 if (decide ((gd l5 1).i < ((((([] : List D) ++ (((a0.fld 1).l.take (gd o2.2 0).i.toNat).drop 0)) ++ (r3 :: ([] : List D))) ++ (((a0.fld 1).l.take ((a0.fld 1).l.length : Int).toNat).drop (gd o4.2 0).i.toNat)).length : Int))) then
 (if (inb (gd l5 1).i (((([] : List D) ++ (((a0.fld 1).l.take (gd o2.2 0).i.toNat).drop 0)) ++ (r3 :: ([] : List D))) ++ (((a0.fld 1).l.take ((a0.fld 1).l.length : Int).toNat).drop (gd o4.2 0).i.toNat)).length) then
 (if ((gd l5 1).i != (gd o2.2 0).i) then
 if (decide ((gd l5 0).i < 0)) then
 ou 0 [(.bool true)]
 else
 if (inb (gd l5 0).i (((([] : List D) ++ (((a0.fld 1).l.take (gd o2.2 0).i.toNat).drop 0)) ++ (r3 :: ([] : List D))) ++ (((a0.fld 1).l.take ((a0.fld 1).l.length : Int).toNat).drop (gd o4.2 0).i.toNat)).length) then
 ou 0 [(.bool (decide (((gd (D.lst (((([] : List D) ++ (((a0.fld 1).l.take (gd o2.2 0).i.toNat).drop 0)) ++ (r3 :: ([] : List D))) ++ (((a0.fld 1).l.take ((a0.fld 1).l.length : Int).toNat).drop (gd o4.2 0).i.toNat))).l (gd l5 1).i.toNat).fld 5).i < ((gd (D.lst (((([] : List D) ++ (((a0.fld 1).l.take (gd o2.2 0).i.toNat).drop 0)) ++ (r3 :: ([] : List D))) ++ (((a0.fld 1).l.take ((a0.fld 1).l.length : Int).toNat).drop (gd o4.2 0).i.toNat))).l (gd l5 0).i.toNat).fld 5).i)))]
 else none
 else
 ou 0 [(.bool false)]).bind fun o7 =>
 sel2 o7.1 (if (gd o7.2 0).b then
 ou 0 [(gd l5 1)]
 else
 ou 0 [(gd l5 0)]) fun _ => none
 else none).bind fun o7 =>
 sel2 o7.1 (ou 0 [(gd o7.2 0), (.int (IntKind.wrap .i64 ((gd l5 1).i + 1)))]) fun _ => none
 else
 ou 1 [(gd l5 0)]) [(.int (-1)), (.int 0)]).bind fun o5 =>
 sel2 o5.1 (if (slOk 0 (gd o5.2 0).i ((((([] : List D) ++ (((a0.fld 1).l.take (gd o2.2 0).i.toNat).drop 0)) ++ (r3 :: ([] : List D))) ++ (((a0.fld 1).l.take ((a0.fld 1).l.length : Int).toNat).drop (gd o4.2 0).i.toNat)).length : Int)) then
 if (appOk 72 ([] : List D) (((((([] : List D) ++ (((a0.fld 1).l.take (gd o2.2 0).i.toNat).drop 0)) ++ (r3 :: ([] : List D))) ++ (((a0.fld 1).l.take ((a0.fld 1).l.length : Int).toNat).drop (gd o4.2 0).i.toNat)).drop 0).take (((gd o5.2 0).i.toNat - 0 : Nat) : Int).toNat)) then
 if (slOk (IntKind.wrap .i64 ((gd o5.2 0).i + 1)) ((((([] : List D) ++ (((a0.fld 1).l.take (gd o2.2 0).i.toNat).drop 0)) ++ (r3 :: ([] : List D))) ++ (((a0.fld 1).l.take ((a0.fld 1).l.length : Int).toNat).drop (gd o4.2 0).i.toNat)).length : Int) ((((([] : List D) ++ (((a0.fld 1).l.take (gd o2.2 0).i.toNat).drop 0)) ++ (r3 :: ([] : List D))) ++ (((a0.fld 1).l.take ((a0.fld 1).l.length : Int).toNat).drop (gd o4.2 0).i.toNat)).length : Int)) then
 if (appOk 72 (([] : List D) ++ (((((([] : List D) ++ (((a0.fld 1).l.take (gd o2.2 0).i.toNat).drop 0)) ++ (r3 :: ([] : List D))) ++ (((a0.fld 1).l.take ((a0.fld 1).l.length : Int).toNat).drop (gd o4.2 0).i.toNat)).drop 0).take (((gd o5.2 0).i.toNat - 0 : Nat) : Int).toNat)) (((((([] : List D) ++ (((a0.fld 1).l.take (gd o2.2 0).i.toNat).drop 0)) ++ (r3 :: ([] : List D))) ++ (((a0.fld 1).l.take ((a0.fld 1).l.length : Int).toNat).drop (gd o4.2 0).i.toNat)).drop (IntKind.wrap .i64 ((gd o5.2 0).i + 1)).toNat).take ((((((([] : List D) ++ (((a0.fld 1).l.take (gd o2.2 0).i.toNat).drop 0)) ++ (r3 :: ([] : List D))) ++ (((a0.fld 1).l.take ((a0.fld 1).l.length : Int).toNat).drop (gd o4.2 0).i.toNat)).length : Int).toNat - (IntKind.wrap .i64 ((gd o5.2 0).i + 1)).toNat : Nat) : Int).toNat)) then
 ou 0 [(D.lst ((([] : List D) ++ (((((([] : List D) ++ (((a0.fld 1).l.take (gd o2.2 0).i.toNat).drop 0)) ++ (r3 :: ([] : List D))) ++ (((a0.fld 1).l.take ((a0.fld 1).l.length : Int).toNat).drop (gd o4.2 0).i.toNat)).drop 0).take (((gd o5.2 0).i.toNat - 0 : Nat) : Int).toNat)) ++ (((((([] : List D) ++ (((a0.fld 1).l.take (gd o2.2 0).i.toNat).drop 0)) ++ (r3 :: ([] : List D))) ++ (((a0.fld 1).l.take ((a0.fld 1).l.length : Int).toNat).drop (gd o4.2 0).i.toNat)).drop (IntKind.wrap .i64 ((gd o5.2 0).i + 1)).toNat).take ((((((([] : List D) ++ (((a0.fld 1).l.take (gd o2.2 0).i.toNat).drop 0)) ++ (r3 :: ([] : List D))) ++ (((a0.fld 1).l.take ((a0.fld 1).l.length : Int).toNat).drop (gd o4.2 0).i.toNat)).length : Int).toNat - (IntKind.wrap .i64 ((gd o5.2 0).i + 1)).toNat : Nat) : Int).toNat)))]
 else none
 else none
 else none
 else none) fun _ => none
 else
 ou 0 [(D.lst (((([] : List D) ++ (((a0.fld 1).l.take (gd o2.2 0).i.toNat).drop 0)) ++ (r3 :: ([] : List D))) ++ (((a0.fld 1).l.take ((a0.fld 1).l.length : Int).toNat).drop (gd o4.2 0).i.toNat)))]).bind fun o5 =>
 sel2 o5.1 (ou 0 [(a0.setFld 1 (gd o5.2 0))]) fun _ => none
 else none
 else none) fun _ => none
 else none
 else none
 else none) fun _ => none) := by kernel_rfl
theorem zAh (a0 a1 : D) : z2x.F [a0, a1] = rn (
 ((z1m.F [a0]).bind fun r2 =>
 if (!r2.b) then
 ou 0 [(.bool true)]
 else
 (z2Q.F [a1]).bind fun r3 =>
 if (!r3.b) then
 ou 0 [(.bool true)]
 else
 if (inb 0 a1.l.length) then
 ou 0 [(.bool (decide (((gd a1.l 0).fld 2).i < 1)))]
 else none).bind fun o2 =>
 sel2 o2.1 (if (gd o2.2 0).b then
 ou 0 [(.pair (.pair (.int 0) (.pair (D.lst []) .unit)) (.pair (.bool false) .unit))]
 else
 (z3P.F [a0]).bind fun r3 =>
 if (inb 0 a1.l.length) then
 (z2N.F [r3, (.pair ((gd a1.l 0).fld 0) (.pair ((gd a1.l 0).fld 1) (.pair (.bool false) (.pair a1 (.pair (.int (IntKind.wrap .i64 ((a0.fld 0).i + ((gd a1.l 0).fld 2).i))) (.pair (.int 0) .unit))))))]).bind fun r4 =>
 ou 0 [(.pair r4 (.pair (.bool true) .unit))]
 else none) fun _ => none) := by kernel_rfl
theorem zEd (a0 a1 a2 : D) : z0W.F [a0, a1, a2] = rn (
 (if (decide (a0.i ≥ a1.i)) then
 ou 0 [(.bool (decide (a0.i ≤ a2.i)))]
 else
 ou 0 [(.bool false)]).bind fun o3 =>
 sel2 o3.1 (ou 0 [(gd o3.2 0)]) fun _ => none) := by kernel_rfl
theorem zCJ (a0 : D) : z17.F [a0] = rn (
 if (a0.s == ([] : List UInt8)) then
 ou 0 [(D.lst [])]
 else
 (z1b.F [a0, (D.str [46])]).bind fun r1 =>
 ou 0 [r1]) := by kernel_rfl
theorem zDE (a0 : D) : z3d.F [a0] = rn (
 if (a0.s == ([42] : List UInt8)) then
 ou 0 [(.bool true)]
 else
 ((z0W.F [(.int (a0.s.length : Int)), (.int 1), (.int 20)]).bind fun r1 =>
 if r1.b then
 (z36.F [a0, (D.str [97, 98, 99, 100, 101, 102, 103, 104, 105, 106, 107, 108, 109, 110, 111, 112, 113, 114, 115, 116, 117, 118, 119, 120, 121, 122, 48, 49, 50, 51, 52, 53, 54, 55, 56, 57, 45, 95])]).bind fun r2 =>
 ou 0 [(.bool (r2.s == ([] : List UInt8)))]
 else
 ou 0 [(.bool false)]).bind fun o1 =>
 sel2 o1.1 (ou 0 [(gd o1.2 0)]) fun _ => none) := by kernel_rfl
theorem z9a (a0 : D) : z1y.F [a0] = rn (
 (z3d.F [a0]).bind fun r1 =>
 ou 0 [(.bool (!r1.b))]) := by kernel_rfl
theorem z2F (a0 a1 : D) : z0I.F [a0, a1] = rn (
 (z0f (fun l2 =>
 if (decide ((gd l2 0).i < (a0.l.length : Int))) then
 if (inb (gd l2 0).i a0.l.length) then
 (z1y.F [(gd a0.l (gd l2 0).i.toNat)]).bind fun r3 =>
 if r3.b then
 ou 1 [(gd l2 0)]
 else
 ou 0 [(.int (IntKind.wrap .i64 ((gd l2 0).i + 1)))]
 else none
 else
 ou 2 []) [(.int 0)]).bind fun o2 =>
 sel2 o2.1 (ou 0 [(gd o2.2 0)]) fun n2 =>
 sel2 n2 (ou 0 [(.int (-1))]) fun _ => none) := by kernel_rfl
theorem z26 (a0 a1 : D) : z0C.F [a0, a1] = rn (
 (z0I.F [a0, a1]).bind fun r2 =>
 ou 0 [(.bool (decide (r2.i ≥ 0)))]) := by kernel_rfl
theorem zCG (a0 : D) : z0w.F [a0] = rn (
 if (decide ((a0.s.length : Int) > 60)) then
 ou 0 [(.bool false)]
 else
 (z17.F [a0]).bind fun r1 =>
 (if (decide ((r1.l.length : Int) ≤ 8)) then
 (z0C.F [r1, .unit]).bind fun r2 =>
 ou 0 [(.bool (!r2.b))]
 else
 ou 0 [(.bool false)]).bind fun o2 =>
 sel2 o2.1 (ou 0 [(gd o2.2 0)]) fun _ => none) := by kernel_rfl
theorem z6J (a0 a1 : D) : z1T.F [a0, a1] = rn (
 (z0f (fun l2 =>
 if (decide ((gd l2 0).i < (a0.l.length : Int))) then
 if (inb (gd l2 0).i a0.l.length) then
 if (a1.i == (gd a0.l (gd l2 0).i.toNat).i) then
 ou 1 [(gd l2 0)]
 else
 ou 0 [(.int (IntKind.wrap .i64 ((gd l2 0).i + 1)))]
 else none
 else
 ou 2 []) [(.int 0)]).bind fun o2 =>
 sel2 o2.1 (ou 0 [(gd o2.2 0)]) fun n2 =>
 sel2 n2 (ou 0 [(.int (-1))]) fun _ => none) := by kernel_rfl
theorem z5O (a0 a1 : D) : z18.F [a0, a1] = rn (
 (z1T.F [a0, a1]).bind fun r2 =>
 ou 0 [(.bool (decide (r2.i ≥ 0)))]) := by kernel_rfl
theorem zEc (a0 : D) : z2o.F [a0] = rn (
 (z18.F [(D.lst ((.int 1) :: ((.int 2) :: ((.int 5) :: ((.int 6) :: ((.int 15) :: ((.int 16) :: ([] : List D)))))))), a0]).bind fun r1 =>
 ou 0 [r1]) := by kernel_rfl
theorem zCK (a0 a1 : D) : z1I.F [a0, a1] = rn (
 (z34.F [a0]).bind fun r2 =>
 (if (!(r2.fld 1).b) then
 (z0W.F [(r2.fld 0), (.int 0), a1]).bind fun r3 =>
 if r3.b then
 (z35.F [(r2.fld 0)]).bind fun r4 =>
 ou 0 [(r2.fld 0), (.bool (r4.s == a0.s))]
 else
 ou 0 [(r2.fld 0), (.bool false)]
 else
 ou 0 [(r2.fld 0), (.bool false)]).bind fun o3 =>
 sel2 o3.1 (ou 0 [(.pair (gd o3.2 0) (.pair (gd o3.2 1) .unit))]) fun _ => none) := by kernel_rfl
theorem z9c (a0 a1 : D) : z2I.F [a0, a1] = rn (
 (z0f (fun l2 =>
 if (decide ((gd l2 1).i ≥ 0)) then
 if (decide (0 ≤ (IntKind.wrap .i64 (8 * (gd l2 1).i)))) then
 if (appOk 1 (gd l2 0).l ((.int (IntKind.wrap .u8 (a0.i.fdiv (2 ^ min (IntKind.wrap .i64 (8 * (gd l2 1).i)).toNat (IntKind.bits .i64))))) :: ([] : List D))) then
 ou 0 [(D.lst ((gd l2 0).l ++ ((.int (IntKind.wrap .u8 (a0.i.fdiv (2 ^ min (IntKind.wrap .i64 (8 * (gd l2 1).i)).toNat (IntKind.bits .i64))))) :: ([] : List D)))), (.int (IntKind.wrap .i64 ((gd l2 1).i - 1)))]
 else none
 else none
 else
 ou 1 [(gd l2 0)]) [(D.lst []), (.int (IntKind.wrap .i64 (a1.i - 1)))]).bind fun o2 =>
 sel2 o2.1 (ou 0 [(.str (z0c (gd o2.2 0).l))]) fun _ => none) := by kernel_rfl
theorem zCI (a0 : D) : z2e.F [a0] = rn (
 (if (!(a0.s == ([] : List UInt8))) then
 (z0w.F [a0]).bind fun r1 =>
 if r1.b then
 (z1i.F [a0, (D.str [42])]).bind fun r2 =>
 ou 0 [(.bool (!r2.b))]
 else
 ou 0 [(.bool false)]
 else
 ou 0 [(.bool false)]).bind fun o1 =>
 sel2 o1.1 (ou 0 [(gd o1.2 0)]) fun _ => none) := by kernel_rfl
theorem z5j (a0 : D) : z1Y.F [a0] = rn (
 (z17.F [a0]).bind fun r1 =>
 (z0f (fun l2 =>
 if (decide ((gd l2 1).i < (r1.l.length : Int))) then
 if (inb (gd l2 1).i r1.l.length) then
 if (catOk (z0c ((.int (IntKind.wrap .u8 ((gd r1.l (gd l2 1).i.toNat).s.length : Int))) :: ([] : List D))) (gd r1.l (gd l2 1).i.toNat).s) then
 if (catOk (gd l2 0).s ((z0c ((.int (IntKind.wrap .u8 ((gd r1.l (gd l2 1).i.toNat).s.length : Int))) :: ([] : List D))) ++ (gd r1.l (gd l2 1).i.toNat).s)) then
 ou 0 [(.str ((gd l2 0).s ++ ((z0c ((.int (IntKind.wrap .u8 ((gd r1.l (gd l2 1).i.toNat).s.length : Int))) :: ([] : List D))) ++ (gd r1.l (gd l2 1).i.toNat).s))), (.int (IntKind.wrap .i64 ((gd l2 1).i + 1)))]
 else none
 else none
 else none
 else
 ou 1 [(gd l2 0)]) [(D.str []), (.int 0)]).bind fun o2 =>
 sel2 o2.1 (ou 0 [(gd o2.2 0)]) fun _ => none) := by kernel_rfl
theorem z8h (a0 : D) : z1g.F [a0] = rn (
 (if (decide (a0.i < 32)) then
 ou 0 [(.bool true)]
 else
 ou 0 [(.bool (decide (a0.i > 126)))]).bind fun o1 =>
 sel2 o1.1 (ou 0 [(gd o1.2 0)]) fun _ => none) := by kernel_rfl
theorem z2X (a0 a1 : D) : z0M.F [a0, a1] = rn (
 (z0f (fun l2 =>
 if (decide ((gd l2 0).i < (a0.l.length : Int))) then
 if (inb (gd l2 0).i a0.l.length) then
 (z1g.F [(gd a0.l (gd l2 0).i.toNat)]).bind fun r3 =>
 if r3.b then
 ou 1 [(gd l2 0)]
 else
 ou 0 [(.int (IntKind.wrap .i64 ((gd l2 0).i + 1)))]
 else none
 else
 ou 2 []) [(.int 0)]).bind fun o2 =>
 sel2 o2.1 (ou 0 [(gd o2.2 0)]) fun n2 =>
 sel2 n2 (ou 0 [(.int (-1))]) fun _ => none) := by kernel_rfl
theorem z2E (a0 a1 : D) : z0H.F [a0, a1] = rn (
 (z0M.F [a0, a1]).bind fun r2 =>
 ou 0 [(.bool (decide (r2.i ≥ 0)))]) := by kernel_rfl
theorem z3l (a0 a1 : D) : z0k.F [a0, a1] = rn (
 if (a0.i == 1) then
 (z1b.F [a1, (D.str [46])]).bind fun r2 =>
 (z0f (fun l3 =>
 if (decide ((gd l3 1).i < (r2.l.length : Int))) then
 if (inb (gd l3 1).i r2.l.length) then
 (z1I.F [(gd r2.l (gd l3 1).i.toNat), (.int 255)]).bind fun r5 =>
 (if (!(r5.fld 1).b) then
 ou 0 [(.bool true)]
 else
 ou 0 [(.bool ((r2.l.length : Int) != 4))]).bind fun o6 =>
 sel2 o6.1 (if (gd o6.2 0).b then
 ou 1 []
 else
 (z2I.F [(r5.fld 0), (.int 1)]).bind fun r7 =>
 if (catOk (gd l3 0).s r7.s) then
 ou 0 [(.str ((gd l3 0).s ++ r7.s)), (.int (IntKind.wrap .i64 ((gd l3 1).i + 1)))]
 else none) fun _ => none
 else none
 else
 ou 2 [(gd l3 0)]) [(D.str []), (.int 0)]).bind fun o3 =>
 sel2 o3.1 (ou 0 [(.pair (D.str []) (.pair (.bool false) .unit))]) fun n4 =>
 sel2 n4 (ou 0 [(.pair (gd o3.2 0) (.pair (.bool true) .unit))]) fun _ => none
 else
 (if (a0.i == 2) then
 ou 0 [(.bool (a0.i == 2))]
 else
 ou 0 [(.bool (a0.i == 5))]).bind fun o2 =>
 sel2 o2.1 (if (gd o2.2 0).b then
 (z2e.F [a1]).bind fun r3 =>
 if (!r3.b) then
 ou 0 [(.pair (D.str []) (.pair (.bool false) .unit))]
 else
 (z1Y.F [a1]).bind fun r4 =>
 if (catOk r4.s ([0] : List UInt8)) then
 ou 0 [(.pair (.str (r4.s ++ ([0] : List UInt8))) (.pair (.bool true) .unit))]
 else none
 else
 if (a0.i == 6) then
 (z1I.F [a1, (.int 4294967295)]).bind fun r3 =>
 if (!(r3.fld 1).b) then
 ou 0 [(.pair (D.str []) (.pair (.bool false) .unit))]
 else
 (z2I.F [(r3.fld 0), (.int 4)]).bind fun r4 =>
 ou 0 [(.pair r4 (.pair (.bool true) .unit))]
 else
 if (a0.i == 15) then
 (z3Q.F [a1, (D.str [32])]).bind fun r3 =>
 (z1I.F [(r3.fld 0), (.int 65535)]).bind fun r4 =>
 (if (!(r4.fld 1).b) then
 ou 0 [(.bool true)]
 else
 (z2e.F [(r3.fld 1)]).bind fun r5 =>
 ou 0 [(.bool (!r5.b))]).bind fun o5 =>
 sel2 o5.1 (if (gd o5.2 0).b then
 ou 0 [(.pair (D.str []) (.pair (.bool false) .unit))]
 else
 (z2I.F [(r4.fld 0), (.int 2)]).bind fun r6 =>
 (z1Y.F [(r3.fld 1)]).bind fun r7 =>
 if (catOk r6.s r7.s) then
 if (catOk (r6.s ++ r7.s) ([0] : List UInt8)) then
 ou 0 [(.pair (.str ((r6.s ++ r7.s) ++ ([0] : List UInt8))) (.pair (.bool true) .unit))]
 else none
 else none) fun _ => none
 else
 if (a0.i == 16) then
 (if (decide ((a1.s.length : Int) > 30)) then
 ou 0 [(.bool true)]
 else
 (z0H.F [(D.lst (a1.s.map fun c => D.int c.toNat)), .unit]).bind fun r3 =>
 ou 0 [r3]).bind fun o3 =>
 sel2 o3.1 (if (gd o3.2 0).b then
 ou 0 [(.pair (D.str []) (.pair (.bool false) .unit))]
 else
 (z2I.F [(.int (a1.s.length : Int)), (.int 1)]).bind fun r4 =>
 if (catOk r4.s a1.s) then
 ou 0 [(.pair (.str (r4.s ++ a1.s)) (.pair (.bool true) .unit))]
 else none) fun _ => none
 else
 ou 0 [(.pair (D.str []) (.pair (.bool false) .unit))]) fun _ => none) := by kernel_rfl
theorem z9b (a0 : D) : z2c.F [a0] = rn (
 ((z0w.F [(a0.fld 0)]).bind fun r1 =>
 if (!r1.b) then
 ou 0 [(.bool true)]
 else
 (z0W.F [(a0.fld 2), (.int 0), (.int 100000)]).bind fun r2 =>
 if (!r2.b) then
 ou 0 [(.bool true)]
 else
 ou 0 [(.bool (decide (((a0.fld 3).s.length : Int) > 100)))]).bind fun o1 =>
 sel2 o1.1 (if (gd o1.2 0).b then
 ou 0 [(.bool false)]
 else
 (z0k.F [(a0.fld 1), (a0.fld 3)]).bind fun r2 =>
 ou 0 [(r2.fld 1)]) fun _ => none) := by kernel_rfl
theorem z4Q (a0 : D) : z0b.F [a0] = rn (
 (z0f (fun l1 =>
 if (decide ((gd l1 1).i < (gd l1 2).i)) then
 if (inb (gd l1 2).i (gd l1 0).l.length) then
 if (inb (gd l1 1).i (gd l1 0).l.length) then
 ou 0 [(D.lst (((gd l1 0).l.set (gd l1 1).i.toNat (gd (gd l1 0).l (gd l1 2).i.toNat)).set (gd l1 2).i.toNat (gd (gd l1 0).l (gd l1 1).i.toNat))), (.int (IntKind.wrap .i64 ((gd l1 1).i + 1))), (.int (IntKind.wrap .i64 ((gd l1 2).i - 1)))]
 else none
 else none
 else
 ou 1 [(gd l1 0)]) [a0, (.int 0), (.int (IntKind.wrap .i64 ((a0.l.length : Int) - 1)))]).bind fun o1 =>
 sel2 o1.1 (ou 0 [(.pair .unit (.pair (gd o1.2 0) .unit))]) fun _ => none) := by kernel_rfl
theorem z8g (a0 : D) : z1f.F [a0] = rn (
 ou 0 [(.bool (!(a0.s == a0.s)))]) := by kernel_rfl
theorem z7P (a0 a1 : D) : z12.F [a0, a1] = rn (
 (z1f.F [a0]).bind fun r2 =>
 (z1f.F [a1]).bind fun r3 =>
 if r2.b then
 if r3.b then
 ou 0 [(.int 0)]
 else
 ou 0 [(.int (-1))]
 else
 if r3.b then
 ou 0 [(.int 1)]
 else
 if (Op.bytesLess a0.s a1.s) then
 ou 0 [(.int (-1))]
 else
 if (!(Op.bytesLess a0.s a1.s || a0.s == a1.s)) then
 ou 0 [(.int 1)]
 else
 ou 0 [(.int 0)]) := by kernel_rfl
theorem z4P (a0 a1 : D) : z0o.F [a0, a1] = rn (
 (z0f (fun l2 =>
 if (decide ((gd l2 0).i < (a0.l.length : Int))) then
 if (inb (gd l2 0).i a0.l.length) then
 if (decide ((gd l2 0).i ≥ (a1.l.length : Int))) then
 ou 1 [(.int 1)]
 else
 if (inb (gd l2 0).i a1.l.length) then
 (z12.F [(gd a0.l (gd l2 0).i.toNat), (gd a1.l (gd l2 0).i.toNat)]).bind fun r3 =>
 if (r3.i != 0) then
 ou 1 [r3]
 else
 ou 0 [(.int (IntKind.wrap .i64 ((gd l2 0).i + 1)))]
 else none
 else none
 else
 ou 2 []) [(.int 0)]).bind fun o2 =>
 sel2 o2.1 (ou 0 [(gd o2.2 0)]) fun n2 =>
 sel2 n2 (if (decide ((a0.l.length : Int) < (a1.l.length : Int))) then
 ou 0 [(.int (-1))]
 else
 ou 0 [(.int 0)]) fun _ => none) := by kernel_rfl
theorem z7x (a0 a1 : D) : z1E.F [a0, a1] = rn (
 (z17.F [a0]).bind fun r2 =>
 (z17.F [a1]).bind fun r3 =>
 (z0b.F [r2]).bind fun r4 =>
 (z0b.F [r3]).bind fun r5 =>
 (z0o.F [(r4.fld 1), (r5.fld 1)]).bind fun r6 =>
 ou 0 [r6]) := by kernel_rfl
theorem zCF (a0 : D) : z2b.F [a0] = rn (
 ou 0 [(.bool (a0.i != a0.i))]) := by kernel_rfl
theorem z9Y (a0 a1 : D) : z11.F [a0, a1] = rn (
 (z2b.F [a0]).bind fun r2 =>
 (z2b.F [a1]).bind fun r3 =>
 if r2.b then
 if r3.b then
 ou 0 [(.int 0)]
 else
 ou 0 [(.int (-1))]
 else
 if r3.b then
 ou 0 [(.int 1)]
 else
 if (decide (a0.i < a1.i)) then
 ou 0 [(.int (-1))]
 else
 if (decide (a0.i > a1.i)) then
 ou 0 [(.int 1)]
 else
 ou 0 [(.int 0)]) := by kernel_rfl
theorem zFs (a0 : D) : z2K.F [a0] = rn (
 (z0f (fun l1 =>
 if (decide ((gd l1 0).i < (a0.l.length : Int))) then
 if (inb (gd l1 0).i a0.l.length) then
 if ((gd a0.l (gd l1 0).i.toNat).i != 0) then
 ou 1 [(gd a0.l (gd l1 0).i.toNat)]
 else
 ou 0 [(.int (IntKind.wrap .i64 ((gd l1 0).i + 1)))]
 else none
 else
 ou 2 []) [(.int 0)]).bind fun o1 =>
 sel2 o1.1 (ou 0 [(gd o1.2 0)]) fun n2 =>
 sel2 n2 (ou 0 [(.int 0)]) fun _ => none) := by kernel_rfl
theorem z8i (a0 a1 : D) : z2L.F [a0, a1] = rn (
 (z1E.F [(a0.fld 0), (a1.fld 0)]).bind fun r2 =>
 (z11.F [(a0.fld 1), (a1.fld 1)]).bind fun r3 =>
 (z2K.F [(D.lst (r2 :: (r3 :: ([] : List D))))]).bind fun r4 =>
 ou 0 [r4]) := by kernel_rfl
theorem zAb (a0 a1 : D) : z2J.F [a0, a1] = rn (
 (z0k.F [a0, a1]).bind fun r2 =>
 if (!(r2.fld 1).b) then
 ou 0 [(D.str [])]
 else
 ou 0 [(r2.fld 0)]) := by kernel_rfl
theorem z6r (a0 a1 : D) : z1a.F [a0, a1] = rn (
 (z2L.F [a0, a1]).bind fun r2 =>
 (z2J.F [(a0.fld 1), (a0.fld 3)]).bind fun r3 =>
 (z2J.F [(a1.fld 1), (a1.fld 3)]).bind fun r4 =>
 (z1z.F [r3, r4]).bind fun r5 =>
 (z11.F [(a0.fld 2), (a1.fld 2)]).bind fun r6 =>
 (z2K.F [(D.lst (r2 :: (r5 :: (r6 :: ([] : List D)))))]).bind fun r7 =>
 ou 0 [r7]) := by kernel_rfl
theorem zAa (a0 : D) : z2w.F [a0] = rn (
 (z0f (fun l1 =>
 if (decide ((gd l1 0).i < (a0.l.length : Int))) then
 if (inb (gd l1 0).i a0.l.length) then
 ((z2c.F [(gd a0.l (gd l1 0).i.toNat)]).bind fun r2 =>
 if (!r2.b) then
 ou 0 [(.bool true)]
 else
 if (decide ((gd l1 0).i > 0)) then
 if (inb (IntKind.wrap .i64 ((gd l1 0).i - 1)) a0.l.length) then
 (z1a.F [(gd a0.l (IntKind.wrap .i64 ((gd l1 0).i - 1)).toNat), (gd a0.l (gd l1 0).i.toNat)]).bind fun r3 =>
 ou 0 [(.bool (decide (r3.i ≥ 0)))]
 else none
 else
 ou 0 [(.bool false)]).bind fun o2 =>
 sel2 o2.1 (if (gd o2.2 0).b then
 ou 1 []
 else
 ou 0 [(.int (IntKind.wrap .i64 ((gd l1 0).i + 1)))]) fun _ => none
 else none
 else
 ou 2 []) [(.int 0)]).bind fun o1 =>
 sel2 o1.1 (ou 0 [(.bool false)]) fun n2 =>
 sel2 n2 (ou 0 [(.bool true)]) fun _ => none) := by kernel_rfl
theorem zCH (a0 a1 a2 a3 : D) : z2d.F [a0, a1, a2, a3] = rn (
 (if (!((a0.fld 0).s == a1.s)) then
 ou 0 [(.bool true)]
 else
 if ((a0.fld 1).i != a2.i) then
 ou 0 [(.bool true)]
 else
 if (inb 0 a3.l.length) then
 ou 0 [(.bool ((a0.fld 2).i != ((gd a3.l 0).fld 2).i))]
 else none).bind fun o4 =>
 sel2 o4.1 (ou 0 [(gd o4.2 0)]) fun _ => none) := by kernel_rfl
theorem z1e (a0 a1 : D) : z0B.F [a0, a1] = rn (
 (z0f (fun l2 =>
 if (decide ((gd l2 0).i < (a0.l.length : Int))) then
 if (inb (gd l2 0).i a0.l.length) then
 (z2d.F [(gd a0.l (gd l2 0).i.toNat), (a1.fld 0), (a1.fld 1), (a1.fld 2)]).bind fun r3 =>
 if r3.b then
 ou 1 [(gd l2 0)]
 else
 ou 0 [(.int (IntKind.wrap .i64 ((gd l2 0).i + 1)))]
 else none
 else
 ou 2 []) [(.int 0)]).bind fun o2 =>
 sel2 o2.1 (ou 0 [(gd o2.2 0)]) fun n2 =>
 sel2 n2 (ou 0 [(.int (-1))]) fun _ => none) := by kernel_rfl
theorem z1W (a0 a1 : D) : z0A.F [a0, a1] = rn (
 (z0B.F [a0, a1]).bind fun r2 =>
 ou 0 [(.bool (decide (r2.i ≥ 0)))]) := by kernel_rfl
theorem zEb (a0 a1 a2 : D) : z2n.F [a0, a1, a2] = rn (
 ((z0W.F [(.int (a0.l.length : Int)), (.int 1), (.int 12)]).bind fun r3 =>
 if r3.b then
 (z2w.F [a0]).bind fun r4 =>
 if r4.b then
 (z0A.F [a0, (.pair a1 (.pair a2 (.pair a0 .unit)))]).bind fun r5 =>
 ou 0 [(.bool (!r5.b))]
 else
 ou 0 [(.bool false)]
 else
 ou 0 [(.bool false)]).bind fun o3 =>
 sel2 o3.1 (ou 0 [(gd o3.2 0)]) fun _ => none) := by kernel_rfl
theorem zDD (a0 a1 : D) : z3c.F [a0, a1] = rn (
 ((z0w.F [(a1.fld 0)]).bind fun r2 =>
 if (!r2.b) then
 ou 0 [(.bool true)]
 else
 (z2o.F [(a1.fld 1)]).bind fun r3 =>
 if (!r3.b) then
 ou 0 [(.bool true)]
 else
 (z0W.F [(a1.fld 4), (.int (IntKind.wrap .i64 ((a0.fld 0).i + 1))), (.int (IntKind.wrap .i64 ((a0.fld 0).i + 100000)))]).bind fun r4 =>
 if (!r4.b) then
 ou 0 [(.bool true)]
 else
 (z0W.F [(a1.fld 5), (.int 1), (a0.fld 0)]).bind fun r5 =>
 ou 0 [(.bool (!r5.b))]).bind fun o2 =>
 sel2 o2.1 (if (gd o2.2 0).b then
 ou 0 [(.bool false)]
 else
 if (a1.fld 2).b then
 ou 0 [(.bool (((a1.fld 3).l.length : Int) == 0))]
 else
 (z2n.F [(a1.fld 3), (a1.fld 0), (a1.fld 1)]).bind fun r3 =>
 ou 0 [r3]) fun _ => none) := by kernel_rfl
theorem z7w (a0 a1 a2 : D) : z1D.F [a0, a1, a2] = rn (
 (z1E.F [(a0.fld 0), a1]).bind fun r3 =>
 (z11.F [(a0.fld 1), a2]).bind fun r4 =>
 (z2K.F [(D.lst (r3 :: (r4 :: ([] : List D))))]).bind fun r5 =>
 ou 0 [r5]) := by kernel_rfl
theorem zAY (a0 : D) : z1k.F [a0] = rn (
 ((z0W.F [(a0.fld 0), (.int 1), (.int 1000000000)]).bind fun r1 =>
 if (!r1.b) then
 ou 0 [(.bool true)]
 else
 ou 0 [(.bool (decide (((a0.fld 1).l.length : Int) > 20)))]).bind fun o1 =>
 sel2 o1.1 (if (gd o1.2 0).b then
 ou 0 [(.bool false)]
 else
 (z0f (fun l2 =>
 if (decide ((gd l2 0).i < ((a0.fld 1).l.length : Int))) then
 if (inb (gd l2 0).i (a0.fld 1).l.length) then
 ((z3c.F [a0, (gd (a0.fld 1).l (gd l2 0).i.toNat)]).bind fun r3 =>
 if (!r3.b) then
 ou 0 [(.bool true)]
 else
 if (decide ((gd l2 0).i > 0)) then
 if (inb (IntKind.wrap .i64 ((gd l2 0).i - 1)) (a0.fld 1).l.length) then
 (z1D.F [(gd (a0.fld 1).l (IntKind.wrap .i64 ((gd l2 0).i - 1)).toNat), ((gd (a0.fld 1).l (gd l2 0).i.toNat).fld 0), ((gd (a0.fld 1).l (gd l2 0).i.toNat).fld 1)]).bind fun r4 =>
 ou 0 [(.bool (decide (r4.i ≥ 0)))]
 else none
 else
 ou 0 [(.bool false)]).bind fun o3 =>
 sel2 o3.1 (if (gd o3.2 0).b then
 ou 1 [(.bool false)]
 else
 ou 0 [(.int (IntKind.wrap .i64 ((gd l2 0).i + 1)))]) fun _ => none
 else none
 else
 ou 2 []) [(.int 0)]).bind fun o2 =>
 sel2 o2.1 (ou 0 [(gd o2.2 0)]) fun n6 =>
 sel2 n6 (ou 0 [(.bool true)]) fun _ => none) fun _ => none) := by kernel_rfl
theorem z3X (a0 : D) : z0G.F [a0] = rn (
 two a0.l.isEmpty
 (ou 0 [(D.lst [])])
 (if (appOk 48 ([] : List D) a0.l) then
 ou 0 [(D.lst (([] : List D) ++ a0.l))]
 else none)) := by kernel_rfl
theorem zCM (a0 : D) : z3E.F [a0] = rn (
 (z0G.F [(a0.fld 3)]).bind fun r1 =>
 ou 0 [(a0.setFld 3 r1)]) := by kernel_rfl
theorem zCL (a0 : D) : z3D.F [a0] = rn (
 (z0f (fun l1 =>
 if (decide ((gd l1 1).i < ((a0.fld 1).l.length : Int))) then
 if (inb (gd l1 1).i (a0.fld 1).l.length) then
 (z3E.F [(gd (a0.fld 1).l (gd l1 1).i.toNat)]).bind fun r3 =>
 if (appOk 72 ((gd l1 0).fld 1).l (r3 :: ([] : List D))) then
 ou 0 [((gd l1 0).setFld 1 (D.lst (((gd l1 0).fld 1).l ++ (r3 :: ([] : List D))))), (.int (IntKind.wrap .i64 ((gd l1 1).i + 1)))]
 else none
 else none
 else
 ou 1 [(gd l1 0)]) [(.pair (a0.fld 0) (.pair (D.lst []) .unit)), (.int 0)]).bind fun o1 =>
 sel2 o1.1 (ou 0 [(gd o1.2 0)]) fun _ => none) := by kernel_rfl
theorem z7v (a0 a1 a2 : D) : z0v.F [a0, a1, a2] = rn (
 (z1D.F [a0, a2, a1]).bind fun r3 =>
 ou 0 [r3]) := by kernel_rfl
theorem z16 (a0 a1 a2 : D) : z07.F [a0, a1, a2] = rn (
 (z0f (fun l3 =>
 if (decide ((gd l3 0).i < (gd l3 1).i)) then
 if (decide (0 ≤ 1)) then
 if (inb (IntKind.wrap .i64 ((IntKind.wrap .u64 (IntKind.wrap .i64 ((gd l3 0).i + (gd l3 1).i))).fdiv (2 ^ min 1 (IntKind.bits .u64)))) a0.l.length) then
 (z0v.F [(gd a0.l (IntKind.wrap .i64 ((IntKind.wrap .u64 (IntKind.wrap .i64 ((gd l3 0).i + (gd l3 1).i))).fdiv (2 ^ min 1 (IntKind.bits .u64)))).toNat), a1, (a2.fld 0)]).bind fun r5 =>
 if (decide (r5.i < 0)) then
 ou 0 [(.int (IntKind.wrap .i64 ((IntKind.wrap .i64 ((IntKind.wrap .u64 (IntKind.wrap .i64 ((gd l3 0).i + (gd l3 1).i))).fdiv (2 ^ min 1 (IntKind.bits .u64)))) + 1))), (gd l3 1)]
 else
 ou 0 [(gd l3 0), (.int (IntKind.wrap .i64 ((IntKind.wrap .u64 (IntKind.wrap .i64 ((gd l3 0).i + (gd l3 1).i))).fdiv (2 ^ min 1 (IntKind.bits .u64)))))]
 else none
 else none
 else
 ou 1 [(gd l3 0)]) [(.int 0), (.int (a0.l.length : Int))]).bind fun o3 =>
 sel2 o3.1 ((if (decide ((gd o3.2 0).i < (a0.l.length : Int))) then
 if (inb (gd o3.2 0).i a0.l.length) then
 (z0v.F [(gd a0.l (gd o3.2 0).i.toNat), a1, (a2.fld 0)]).bind fun r4 =>
 ou 0 [(gd o3.2 0), (.bool (r4.i == 0))]
 else none
 else
 ou 0 [(gd o3.2 0), (.bool false)]).bind fun o4 =>
 sel2 o4.1 (ou 0 [(.pair (gd o4.2 0) (.pair (gd o4.2 1) .unit))]) fun _ => none) fun _ => none) := by kernel_rfl
theorem z9Z (a0 a1 a2 : D) : z1x.F [a0, a1, a2] = rn (
 (z07.F [(a0.fld 1), a2, (.pair a1 .unit)]).bind fun r3 =>
 ou 0 [(.pair (r3.fld 0) (.pair (r3.fld 1) .unit))]) := by kernel_rfl
theorem zCN (a0 a1 : D) : z28.F [a0, a1] = rn (
 (z3D.F [a0]).bind fun r2 =>
 (z1x.F [r2, (a1.fld 0), (a1.fld 1)]).bind fun r3 =>
 if (r3.fld 1).b then
 if (inb (r3.fld 0).i (r2.fld 1).l.length) then
 ou 0 [(r2.setFld 1 (D.lst ((r2.fld 1).l.set (r3.fld 0).i.toNat a1)))]
 else none
 else
 (if (((r2.fld 1).l.length : Int) == 20) then
 (z0f (fun l4 =>
 if (decide ((gd l4 1).i < ((r2.fld 1).l.length : Int))) then
 (if (inb (gd l4 1).i (r2.fld 1).l.length) then
 if (inb (gd l4 0).i (r2.fld 1).l.length) then
 if (decide (((gd (r2.fld 1).l (gd l4 1).i.toNat).fld 5).i < ((gd (r2.fld 1).l (gd l4 0).i.toNat).fld 5).i)) then
 ou 0 [(gd l4 1)]
 else
 ou 0 [(gd l4 0)]
 else none
 else none).bind fun o6 =>
 sel2 o6.1 (ou 0 [(gd o6.2 0), (.int (IntKind.wrap .i64 ((gd l4 1).i + 1)))]) fun _ => none
 else
 ou 1 [(gd l4 0)]) [(.int 0), (.int 0)]).bind fun o4 =>
 sel2 o4.1 ((z0i.F [(r2.fld 1), (gd o4.2 0), (.int (IntKind.wrap .i64 ((gd o4.2 0).i + 1)))]).bind fun r5 =>
 (z1x.F [(r2.setFld 1 r5), (a1.fld 0), (a1.fld 1)]).bind fun r6 =>
 ou 0 [(r2.setFld 1 r5), (r6.fld 0)]) fun _ => none
 else
 ou 0 [r2, (r3.fld 0)]).bind fun o4 =>
 sel2 o4.1 ((z0j.F [((gd o4.2 0).fld 1), (gd o4.2 1), (D.lst (a1 :: ([] : List D)))]).bind fun r6 =>
 ou 0 [((gd o4.2 0).setFld 1 r6)]) fun _ => none) := by kernel_rfl
theorem zAZ (a0 a1 : D) : z2H.F [a0, a1] = rn (
 ((z1k.F [a0]).bind fun r2 =>
 if (!r2.b) then
 ou 0 [(.bool true)]
 else
 if ((a1.l.length : Int) == 0) then
 ou 0 [(.bool true)]
 else
 if (inb 0 a1.l.length) then
 (z2n.F [a1, ((gd a1.l 0).fld 0), ((gd a1.l 0).fld 1)]).bind fun r3 =>
 if (!r3.b) then
 ou 0 [(.bool true)]
 else
 ou 0 [(.bool (decide (((gd a1.l 0).fld 2).i < 1)))]
 else none).bind fun o2 =>
 sel2 o2.1 (if (gd o2.2 0).b then
 ou 0 [(.pair (.pair (.int 0) (.pair (D.lst []) .unit)) (.pair (.bool false) .unit))]
 else
 if (inb 0 a1.l.length) then
 (z0G.F [a1]).bind fun r3 =>
 (z28.F [a0, (.pair ((gd a1.l 0).fld 0) (.pair ((gd a1.l 0).fld 1) (.pair (.bool false) (.pair r3 (.pair (.int (IntKind.wrap .i64 ((a0.fld 0).i + ((gd a1.l 0).fld 2).i))) (.pair (a0.fld 0) .unit))))))]).bind fun r4 =>
 ou 0 [(.pair r4 (.pair (.bool true) .unit))]
 else none) fun _ => none) := by kernel_rfl
theorem zCP (a0 a1 : D) : z3H.F [a0, a1] = rn (
 if (!((a0.fld 0).s == (a1.fld 0).s)) then
 ou 0 [(.bool false)]
 else
 if ((a0.fld 1).i != (a1.fld 1).i) then
 ou 0 [(.bool false)]
 else
 if ((a0.fld 2).i != (a1.fld 2).i) then
 ou 0 [(.bool false)]
 else
 if (!((a0.fld 3).s == (a1.fld 3).s)) then
 ou 0 [(.bool false)]
 else
 ou 0 [(.bool true)]) := by kernel_rfl
theorem zAc (a0 a1 : D) : z1O.F [a0, a1] = rn (
 if ((a0.l.length : Int) != (a1.l.length : Int)) then
 ou 0 [(.bool false)]
 else
 (z0f (fun l2 =>
 if (decide ((gd l2 0).i < (a0.l.length : Int))) then
 if (inb (gd l2 0).i a0.l.length) then
 if (inb (gd l2 0).i a1.l.length) then
 (z3H.F [(gd a0.l (gd l2 0).i.toNat), (gd a1.l (gd l2 0).i.toNat)]).bind fun r3 =>
 if (!r3.b) then
 ou 1 []
 else
 ou 0 [(.int (IntKind.wrap .i64 ((gd l2 0).i + 1)))]
 else none
 else none
 else
 ou 2 []) [(.int 0)]).bind fun o2 =>
 sel2 o2.1 (ou 0 [(.bool false)]) fun n4 =>
 sel2 n4 (ou 0 [(.bool true)]) fun _ => none) := by kernel_rfl
theorem zDG (a0 a1 : D) : z30.F [a0, a1] = rn (
 if (!((a0.fld 0).s == (a1.fld 0).s)) then
 ou 0 [(.bool false)]
 else
 if ((a0.fld 1).i != (a1.fld 1).i) then
 ou 0 [(.bool false)]
 else
 if (!((a0.fld 2).b == (a1.fld 2).b)) then
 ou 0 [(.bool false)]
 else
 (z1O.F [(a0.fld 3), (a1.fld 3)]).bind fun r2 =>
 if (!r2.b) then
 ou 0 [(.bool false)]
 else
 if ((a0.fld 4).i != (a1.fld 4).i) then
 ou 0 [(.bool false)]
 else
 if ((a0.fld 5).i != (a1.fld 5).i) then
 ou 0 [(.bool false)]
 else
 ou 0 [(.bool true)]) := by kernel_rfl
theorem zCO (a0 a1 : D) : z3G.F [a0, a1] = rn (
 if ((a0.l.length : Int) != (a1.l.length : Int)) then
 ou 0 [(.bool false)]
 else
 (z0f (fun l2 =>
 if (decide ((gd l2 0).i < (a0.l.length : Int))) then
 if (inb (gd l2 0).i a0.l.length) then
 if (inb (gd l2 0).i a1.l.length) then
 (z30.F [(gd a0.l (gd l2 0).i.toNat), (gd a1.l (gd l2 0).i.toNat)]).bind fun r3 =>
 if (!r3.b) then
 ou 1 []
 else
 ou 0 [(.int (IntKind.wrap .i64 ((gd l2 0).i + 1)))]
 else none
 else none
 else
 ou 2 []) [(.int 0)]).bind fun o2 =>
 sel2 o2.1 (ou 0 [(.bool false)]) fun n4 =>
 sel2 n4 (ou 0 [(.bool true)]) fun _ => none) := by kernel_rfl
theorem zDF (a0 a1 : D) : z0e.F [a0, a1] = rn (
 if ((a0.fld 0).i != (a1.fld 0).i) then
 ou 0 [(.bool false)]
 else
 (z3G.F [(a0.fld 1), (a1.fld 1)]).bind fun r2 =>
 if (!r2.b) then
 ou 0 [(.bool false)]
 else
 ou 0 [(.bool true)]) := by kernel_rfl
theorem zCQ (a0 : D) : z0d.F [a0] = rn (
 if (decide (a0.i ≤ 0)) then
 ou 0 [(D.str [109, 48])]
 else
 (z0f (fun l1 =>
 if (decide ((gd l1 0).i > 0)) then
 if (10 != 0) then
 if (catOk (z0c ((.int (IntKind.wrap .u8 (IntKind.wrap .i64 (48 + ((gd l1 0).i.tmod 10))))) :: ([] : List D))) (gd l1 1).s) then
 ou 0 [(.int (IntKind.wrap .i64 ((gd l1 0).i.tdiv 10))), (.str ((z0c ((.int (IntKind.wrap .u8 (IntKind.wrap .i64 (48 + ((gd l1 0).i.tmod 10))))) :: ([] : List D))) ++ (gd l1 1).s))]
 else none
 else none
 else
 ou 1 [(gd l1 1)]) [a0, (D.str [])]).bind fun o1 =>
 sel2 o1.1 (if (catOk ([109] : List UInt8) (gd o1.2 0).s) then
 ou 0 [(.str (([109] : List UInt8) ++ (gd o1.2 0).s))]
 else none) fun _ => none) := by kernel_rfl
theorem z8k (a0 a1 : D) : z1J.F [a0, a1] = rn (
 (z0f (fun l2 =>
 if (decide ((gd l2 2).i < ((gd l2 0).l.length : Int))) then
 (z0d.F [(gd l2 1)]).bind fun r5 =>
 if (inb (gd l2 2).i (gd l2 0).l.length) then
 (z0d.F [(.int (IntKind.wrap .i64 ((IntKind.wrap .i64 ((IntKind.wrap .i64 ((gd l2 1).i + 1)) + 1)) + 1)))]).bind fun r6 =>
 ou 0 [(D.lst (upd (upd (upd (upd (gd l2 0).l (gd l2 2).i.toNat 0 r5) (gd l2 2).i.toNat 1 (.int (IntKind.wrap .i64 ((gd l2 1).i + 1)))) (gd l2 2).i.toNat 2 (.int (IntKind.wrap .i64 ((IntKind.wrap .i64 ((gd l2 1).i + 1)) + 1)))) (gd l2 2).i.toNat 3 r6)), (.int (IntKind.wrap .i64 ((IntKind.wrap .i64 ((IntKind.wrap .i64 ((IntKind.wrap .i64 ((gd l2 1).i + 1)) + 1)) + 1)) + 1))), (.int (IntKind.wrap .i64 ((gd l2 2).i + 1)))]
 else none
 else
 ou 1 [(gd l2 0), (gd l2 1)]) [a0, a1, (.int 0)]).bind fun o2 =>
 sel2 o2.1 (ou 0 [(.pair (gd o2.2 1) (.pair (gd o2.2 0) .unit))]) fun _ => none) := by kernel_rfl
theorem z9e (a0 a1 : D) : z2g.F [a0, a1] = rn (
 (z0f (fun l2 =>
 if (decide ((gd l2 2).i < ((gd l2 0).l.length : Int))) then
 (z0d.F [(gd l2 1)]).bind fun r5 =>
 if (inb (gd l2 2).i (gd l2 0).l.length) then
 if (3 != 0) then
 (z1J.F [((gd (D.lst (upd (upd (upd (gd l2 0).l (gd l2 2).i.toNat 0 r5) (gd l2 2).i.toNat 1 (.int (IntKind.wrap .i64 ((gd l2 1).i + 1)))) (gd l2 2).i.toNat 2 (.bool (((IntKind.wrap .i64 ((IntKind.wrap .i64 ((gd l2 1).i + 1)) + 1)).tmod 3) == 0)))).l (gd l2 2).i.toNat).fld 3), (.int (IntKind.wrap .i64 ((IntKind.wrap .i64 ((IntKind.wrap .i64 ((gd l2 1).i + 1)) + 1)) + 1)))]).bind fun r6 =>
 ou 0 [(D.lst (upd (upd (upd (upd (upd (upd (gd l2 0).l (gd l2 2).i.toNat 0 r5) (gd l2 2).i.toNat 1 (.int (IntKind.wrap .i64 ((gd l2 1).i + 1)))) (gd l2 2).i.toNat 2 (.bool (((IntKind.wrap .i64 ((IntKind.wrap .i64 ((gd l2 1).i + 1)) + 1)).tmod 3) == 0))) (gd l2 2).i.toNat 3 (r6.fld 1)) (gd l2 2).i.toNat 4 (r6.fld 0)) (gd l2 2).i.toNat 5 (.int (IntKind.wrap .i64 ((r6.fld 0).i + 1))))), (.int (IntKind.wrap .i64 ((IntKind.wrap .i64 ((r6.fld 0).i + 1)) + 1))), (.int (IntKind.wrap .i64 ((gd l2 2).i + 1)))]
 else none
 else none
 else
 ou 1 [(gd l2 0), (gd l2 1)]) [a0, a1, (.int 0)]).bind fun o2 =>
 sel2 o2.1 (ou 0 [(.pair (gd o2.2 1) (.pair (gd o2.2 0) .unit))]) fun _ => none) := by kernel_rfl
theorem zAd (a0 a1 : D) : z1A.F [a0, a1] = rn (
 (z2g.F [(a0.fld 1), a1]).bind fun r2 =>
 ou 0 [(.pair (r2.fld 0) (.pair (D.mix (.pair (.int .i64) (.pair (.lst true (.pair .str (.pair (.int .i64) (.pair .bool (.pair (.lst true (.pair .str (.pair (.int .i64) (.pair (.int .i64) (.pair .str .unit))))) (.pair (.int .i64) (.pair (.int .i64) .unit))))))) .unit)) a0 (a0.setFld 1 (r2.fld 1))) .unit))]) := by kernel_rfl
theorem z8j (a0 a1 : D) : z2M.F [a0, a1] = rn (
 (z0f (fun l2 =>
 if (decide ((gd l2 1).i < (a0.l.length : Int))) then
 if (inb (gd l2 1).i a0.l.length) then
 (z0d.F [(gd l2 0)]).bind fun r4 =>
 if (!(((gd a0.l (gd l2 1).i.toNat).fld 0).s == r4.s)) then
 ou 1 [(.int (-1))]
 else
 if (((gd a0.l (gd l2 1).i.toNat).fld 1).i != (IntKind.wrap .i64 ((gd l2 0).i + 1))) then
 ou 1 [(.int (-1))]
 else
 if (((gd a0.l (gd l2 1).i.toNat).fld 2).i != (IntKind.wrap .i64 ((IntKind.wrap .i64 ((gd l2 0).i + 1)) + 1))) then
 ou 1 [(.int (-1))]
 else
 (z0d.F [(.int (IntKind.wrap .i64 ((IntKind.wrap .i64 ((IntKind.wrap .i64 ((gd l2 0).i + 1)) + 1)) + 1)))]).bind fun r5 =>
 if (!(((gd a0.l (gd l2 1).i.toNat).fld 3).s == r5.s)) then
 ou 1 [(.int (-1))]
 else
 ou 0 [(.int (IntKind.wrap .i64 ((IntKind.wrap .i64 ((IntKind.wrap .i64 ((IntKind.wrap .i64 ((gd l2 0).i + 1)) + 1)) + 1)) + 1))), (.int (IntKind.wrap .i64 ((gd l2 1).i + 1)))]
 else none
 else
 ou 2 [(gd l2 0)]) [a1, (.int 0)]).bind fun o2 =>
 sel2 o2.1 (ou 0 [(gd o2.2 0)]) fun n2 =>
 sel2 n2 (ou 0 [(gd o2.2 0)]) fun _ => none) := by kernel_rfl
theorem z9d (a0 a1 : D) : z2f.F [a0, a1] = rn (
 (z0f (fun l2 =>
 if (decide ((gd l2 1).i < (a0.l.length : Int))) then
 if (inb (gd l2 1).i a0.l.length) then
 (z0d.F [(gd l2 0)]).bind fun r4 =>
 if (!(((gd a0.l (gd l2 1).i.toNat).fld 0).s == r4.s)) then
 ou 1 [(.int (-1))]
 else
 if (((gd a0.l (gd l2 1).i.toNat).fld 1).i != (IntKind.wrap .i64 ((gd l2 0).i + 1))) then
 ou 1 [(.int (-1))]
 else
 if (3 != 0) then
 if (!(((gd a0.l (gd l2 1).i.toNat).fld 2).b == (((IntKind.wrap .i64 ((IntKind.wrap .i64 ((gd l2 0).i + 1)) + 1)).tmod 3) == 0))) then
 ou 1 [(.int (-1))]
 else
 (z2M.F [((gd a0.l (gd l2 1).i.toNat).fld 3), (.int (IntKind.wrap .i64 ((IntKind.wrap .i64 ((IntKind.wrap .i64 ((gd l2 0).i + 1)) + 1)) + 1)))]).bind fun r5 =>
 if (decide (r5.i < 0)) then
 ou 1 [(.int (-1))]
 else
 if (((gd a0.l (gd l2 1).i.toNat).fld 4).i != r5.i) then
 ou 1 [(.int (-1))]
 else
 if (((gd a0.l (gd l2 1).i.toNat).fld 5).i != (IntKind.wrap .i64 (r5.i + 1))) then
 ou 1 [(.int (-1))]
 else
 ou 0 [(.int (IntKind.wrap .i64 ((IntKind.wrap .i64 (r5.i + 1)) + 1))), (.int (IntKind.wrap .i64 ((gd l2 1).i + 1)))]
 else none
 else none
 else
 ou 2 [(gd l2 0)]) [a1, (.int 0)]).bind fun o2 =>
 sel2 o2.1 (ou 0 [(gd o2.2 0)]) fun n2 =>
 sel2 n2 (ou 0 [(gd o2.2 0)]) fun _ => none) := by kernel_rfl
theorem z6D (a0 a1 : D) : z0y.F [a0, a1] = rn (
 (z2f.F [(a0.fld 1), a1]).bind fun r2 =>
 if (decide (r2.i < 0)) then
 ou 0 [(.int (-1))]
 else
 ou 0 [r2]) := by kernel_rfl
theorem z63 (a0 a1 : D) : z2p.F [a0, a1] = rn (
 (z1u.F [a0, (.int 1048576)]).bind fun r2 =>
 if (decide (r2.i < 0)) then
 ou 0 [(.bool true)]
 else
 (z1l.F [a1, r2]).bind fun r3 =>
 if (decide (r3.i < 0)) then
 ou 0 [(.bool true)]
 else
 (z0n.F [a0]).bind fun r4 =>
 (z0l.F [a1]).bind fun r5 =>
 (z2x.F [r4, r5]).bind fun r6 =>
 (z0n.F [a0]).bind fun r7 =>
 (z0l.F [a1]).bind fun r8 =>
 (z2H.F [r7, r8]).bind fun r9 =>
 ((z0e.F [(r9.fld 0), (r6.fld 0)]).bind fun r10 =>
 if (!r10.b) then
 ou 0 [(.bool true)]
 else
 ou 0 [(.bool (!((r9.fld 1).b == (r6.fld 1).b)))]).bind fun o10 =>
 sel2 o10.1 (if (gd o10.2 0).b then
 ou 0 [(.bool false)]
 else
 (z0n.F [a0]).bind fun r11 =>
 (z0e.F [r7, r11]).bind fun r12 =>
 if (!r12.b) then
 ou 0 [(.bool false)]
 else
 (z0l.F [a1]).bind fun r13 =>
 (z1O.F [r8, r13]).bind fun r14 =>
 if (!r14.b) then
 ou 0 [(.bool false)]
 else
 (z1A.F [r7, (.int 1)]).bind fun r15 =>
 (z1J.F [r8, (r15.fld 0)]).bind fun r16 =>
 (if (decide ((r16.fld 0).i < 0)) then
 ou 0 [(.bool true)]
 else
 (z0e.F [(r9.fld 0), (r6.fld 0)]).bind fun r17 =>
 if (!r17.b) then
 ou 0 [(.bool true)]
 else
 ou 0 [(.bool (!((r9.fld 1).b == (r6.fld 1).b)))]).bind fun o17 =>
 sel2 o17.1 (if (gd o17.2 0).b then
 ou 0 [(.bool false)]
 else
 (z1A.F [(r9.fld 0), (.int 1)]).bind fun r18 =>
 (z0y.F [(.pair ((r9.fld 0).fld 0) (.pair ((r18.fld 1).fld 1) .unit)), (.int 1)]).bind fun r19 =>
 if (decide (r19.i < 0)) then
 ou 0 [(.bool false)]
 else
 if (r19.i != (r18.fld 0).i) then
 ou 0 [(.bool false)]
 else
 (z0n.F [a0]).bind fun r20 =>
 (z0l.F [a1]).bind fun r21 =>
 (z2H.F [r20, r21]).bind fun r22 =>
 ((z0e.F [(r22.fld 0), (r6.fld 0)]).bind fun r23 =>
 if (!r23.b) then
 ou 0 [(.bool true)]
 else
 ou 0 [(.bool (!((r22.fld 1).b == (r6.fld 1).b)))]).bind fun o23 =>
 sel2 o23.1 (if (gd o23.2 0).b then
 ou 0 [(.bool false)]
 else
 (z0y.F [(.pair ((r9.fld 0).fld 0) (.pair ((r18.fld 1).fld 1) .unit)), (.int 1)]).bind fun r24 =>
 if (decide (r24.i < 0)) then
 ou 0 [(.bool false)]
 else
 if (r24.i != (r18.fld 0).i) then
 ou 0 [(.bool false)]
 else
 ou 0 [(.bool true)]) fun _ => none) fun _ => none) fun _ => none) := by kernel_rfl
theorem zDK (a0 a1 a2 a3 : D) : z3e.F [a0, a1, a2, a3] = rn (
 ((z1m.F [a0]).bind fun r4 =>
 if (!r4.b) then
 ou 0 [(.bool true)]
 else
 (z1K.F [a1]).bind fun r5 =>
 if (!r5.b) then
 ou 0 [(.bool true)]
 else
 (z2r.F [a2]).bind fun r6 =>
 if (!r6.b) then
 ou 0 [(.bool true)]
 else
 (z0X.F [a3, (.int 1), (.int 100000)]).bind fun r7 =>
 ou 0 [(.bool (!r7.b))]).bind fun o4 =>
 sel2 o4.1 (if (gd o4.2 0).b then
 ou 0 [(.pair (.pair (.int 0) (.pair (D.lst []) .unit)) (.pair (.bool false) .unit))]
 else
 (z3P.F [a0]).bind fun r5 =>
 (z2N.F [r5, (.pair a1 (.pair a2 (.pair (.bool true) (.pair (D.lst []) (.pair (.int (IntKind.wrap .i64 ((a0.fld 0).i + a3.i))) (.pair (.int 0) .unit))))))]).bind fun r6 =>
 ou 0 [(.pair r6 (.pair (.bool true) .unit))]) fun _ => none) := by kernel_rfl
theorem zDC (a0 a1 a2 a3 : D) : z2z.F [a0, a1, a2, a3] = rn (
 ((z1k.F [a0]).bind fun r4 =>
 if (!r4.b) then
 ou 0 [(.bool true)]
 else
 (z0w.F [a1]).bind fun r5 =>
 if (!r5.b) then
 ou 0 [(.bool true)]
 else
 (z2o.F [a2]).bind fun r6 =>
 if (!r6.b) then
 ou 0 [(.bool true)]
 else
 (z0W.F [a3, (.int 1), (.int 100000)]).bind fun r7 =>
 ou 0 [(.bool (!r7.b))]).bind fun o4 =>
 sel2 o4.1 (if (gd o4.2 0).b then
 ou 0 [(.pair (.pair (.int 0) (.pair (D.lst []) .unit)) (.pair (.bool false) .unit))]
 else
 (z28.F [a0, (.pair a1 (.pair a2 (.pair (.bool true) (.pair (D.lst []) (.pair (.int (IntKind.wrap .i64 ((a0.fld 0).i + a3.i))) (.pair (a0.fld 0) .unit))))))]).bind fun r5 =>
 ou 0 [(.pair r5 (.pair (.bool true) .unit))]) fun _ => none) := by kernel_rfl
theorem z6s (a0 a1 a2 a3 : D) : z3F.F [a0, a1, a2, a3] = rn (
 if (decide ((a1.s.length : Int) > 1048576)) then
 ou 0 [(.bool true)]
 else
 (z1u.F [a0, (.int 1048576)]).bind fun r4 =>
 if (decide (r4.i < 0)) then
 ou 0 [(.bool true)]
 else
 (z0n.F [a0]).bind fun r5 =>
 (z3e.F [r5, a1, a2, a3]).bind fun r6 =>
 (z0n.F [a0]).bind fun r7 =>
 (z2z.F [r7, a1, a2, a3]).bind fun r8 =>
 ((z0e.F [(r8.fld 0), (r6.fld 0)]).bind fun r9 =>
 if (!r9.b) then
 ou 0 [(.bool true)]
 else
 ou 0 [(.bool (!((r8.fld 1).b == (r6.fld 1).b)))]).bind fun o9 =>
 sel2 o9.1 (if (gd o9.2 0).b then
 ou 0 [(.bool false)]
 else
 (z0n.F [a0]).bind fun r10 =>
 (z0e.F [r7, r10]).bind fun r11 =>
 if (!r11.b) then
 ou 0 [(.bool false)]
 else
 (z1A.F [r7, (.int 1)]).bind fun r12 =>
 (if (decide ((r12.fld 0).i < 0)) then
 ou 0 [(.bool true)]
 else
 (z0e.F [(r8.fld 0), (r6.fld 0)]).bind fun r13 =>
 if (!r13.b) then
 ou 0 [(.bool true)]
 else
 ou 0 [(.bool (!((r8.fld 1).b == (r6.fld 1).b)))]).bind fun o13 =>
 sel2 o13.1 (if (gd o13.2 0).b then
 ou 0 [(.bool false)]
 else
 (z1A.F [(r8.fld 0), (.int 1)]).bind fun r14 =>
 (z0y.F [(.pair ((r8.fld 0).fld 0) (.pair ((r14.fld 1).fld 1) .unit)), (.int 1)]).bind fun r15 =>
 if (decide (r15.i < 0)) then
 ou 0 [(.bool false)]
 else
 if (r15.i != (r14.fld 0).i) then
 ou 0 [(.bool false)]
 else
 (z0n.F [a0]).bind fun r16 =>
 (z2z.F [r16, a1, a2, a3]).bind fun r17 =>
 ((z0e.F [(r17.fld 0), (r6.fld 0)]).bind fun r18 =>
 if (!r18.b) then
 ou 0 [(.bool true)]
 else
 ou 0 [(.bool (!((r17.fld 1).b == (r6.fld 1).b)))]).bind fun o18 =>
 sel2 o18.1 (if (gd o18.2 0).b then
 ou 0 [(.bool false)]
 else
 (z0y.F [(.pair ((r8.fld 0).fld 0) (.pair ((r14.fld 1).fld 1) .unit)), (.int 1)]).bind fun r19 =>
 if (decide (r19.i < 0)) then
 ou 0 [(.bool false)]
 else
 if (r19.i != (r14.fld 0).i) then
 ou 0 [(.bool false)]
 else
 ou 0 [(.bool true)]) fun _ => none) fun _ => none) fun _ => none) := by kernel_rfl
end Go.Proofs.YtkogmjbmbpcbeaaGreatDoor
