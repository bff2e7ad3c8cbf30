/- What each function gives, told as plain code. -/
import Derived.Test.YtllbponcjpcbnaaGreatDoorC
set_option linter.unusedSectionVars false
set_option linter.unusedVariables false
set_option linter.unusedSimpArgs false
namespace Go.Proofs.YtllbponcjpcbnaaGreatDoor
open Go Go.Own
set_option maxRecDepth 100000
theorem zEh (a0 a1 : D) : z4O.F [a0, a1] = rn (
 if (decide ((IntKind.wrap .i64 (a1.i - ((a0.fld 0).s.length : Int))) < 0)) then
 ou 0 [(.int (-1))]
 else
 if (decide ((IntKind.wrap .i64 ((IntKind.wrap .i64 (a1.i - ((a0.fld 0).s.length : Int))) - ((a0.fld 3).s.length : Int))) < 0)) then
 ou 0 [(.int (-1))]
 else
 ou 0 [(.int (IntKind.wrap .i64 ((IntKind.wrap .i64 (a1.i - ((a0.fld 0).s.length : Int))) - ((a0.fld 3).s.length : Int))))]) := by kernel_rfl
theorem zEg (a0 a1 : D) : z3V.F [a0, a1] = rn (
 (z4O.F [(a0.fld 1), a1]).bind fun r2 =>
 if (decide (r2.i < 0)) then
 ou 0 [(.int (-1))]
 else
 ou 0 [r2]) := by kernel_rfl
theorem zCa (a0 a1 : D) : z3w.F [a0, a1] = rn (
 if (decide ((IntKind.wrap .i64 (a1.i - (a0.l.length : Int))) < 0)) then
 ou 0 [(.int (-1))]
 else
 (z0a (fun l2 =>
 if (decide ((gd l2 1).i < (a0.l.length : Int))) then
 if (inb (gd l2 1).i a0.l.length) then
 (z3V.F [(gd a0.l (gd l2 1).i.toNat), (gd l2 0)]).bind fun r4 =>
 if (decide (r4.i < 0)) then
 ou 1 [(.int (-1))]
 else
 ou 0 [r4, (.int (IntKind.wrap .i64 ((gd l2 1).i + 1)))]
 else none
 else
 ou 2 [(gd l2 0)]) [(.int (IntKind.wrap .i64 (a1.i - (a0.l.length : Int)))), (.int 0)]).bind fun o2 =>
 sel2 o2.1 (ou 0 [(gd o2.2 0)]) fun n4 =>
 sel2 n4 (ou 0 [(gd o2.2 0)]) fun _ => none) := by kernel_rfl
theorem zFy (a0 a1 : D) : z47.F [a0, a1] = rn (
 (z3w.F [(a0.fld 2), a1]).bind fun r2 =>
 if (decide (r2.i < 0)) then
 ou 0 [(.int (-1))]
 else
 ou 0 [r2]) := by kernel_rfl
theorem zEk (a0 : D) : z4P.F [a0] = rn (
 ou 0 [(.pair (a0.fld 0) (.pair (a0.fld 1) (.pair (a0.fld 2) (.pair (a0.fld 3) .unit))))]) := by kernel_rfl
theorem zEj (a0 : D) : z3W.F [a0] = rn (
 (z4P.F [(a0.fld 1)]).bind fun r1 =>
 ou 0 [(.pair (a0.fld 0) (.pair r1 .unit))]) := by kernel_rfl
theorem zCb (a0 : D) : z3x.F [a0] = rn (
 if (makeOk 56 (a0.l.length : Int)) then
 (z0a (fun l1 =>
 if (decide ((gd l1 1).i < (a0.l.length : Int))) then
 if (inb (gd l1 1).i a0.l.length) then
 (z3W.F [(gd a0.l (gd l1 1).i.toNat)]).bind fun r3 =>
 if (inb (gd l1 1).i (gd l1 0).l.length) then
 ou 0 [(D.lst ((gd l1 0).l.set (gd l1 1).i.toNat r3)), (.int (IntKind.wrap .i64 ((gd l1 1).i + 1)))]
 else none
 else none
 else
 ou 1 [(gd l1 0)]) [(D.lst (List.replicate (a0.l.length : Int).toNat ((.pair (.int 0) (.pair (.pair (.str []) (.pair (.int 0) (.pair (.int 0) (.pair (.str []) .unit)))) .unit)) : D))), (.int 0)]).bind fun o1 =>
 sel2 o1.1 (ou 0 [(gd o1.2 0)]) fun _ => none
 else none) := by kernel_rfl
theorem zFz (a0 : D) : z48.F [a0] = rn (
 (z3x.F [(a0.fld 2)]).bind fun r1 =>
 ou 0 [(.pair (a0.fld 0) (.pair (a0.fld 1) (.pair r1 .unit)))]) := by kernel_rfl
theorem zKn (a0 a1 a2 : D) : z0l.F [a0, a1, a2] = rn (
 (if (decide (a0.i ≥ a1.i)) then
 ou 0 [(.bool (decide (a0.i ≤ a2.i)))]
 else
 ou 0 [(.bool false)]).bind fun o3 =>
 sel2 o3.1 (ou 0 [(gd o3.2 0)]) fun _ => none) := by kernel_rfl
theorem zHl (a0 a1 : D) : z5J.F [a0, a1] = rn (
 ((z0l.F [a0, (.int 0), (.int 100)]).bind fun r2 =>
 if r2.b then
 (z0l.F [a1, (.int 1), (.int 1000)]).bind fun r3 =>
 ou 0 [r3]
 else
 ou 0 [(.bool false)]).bind fun o2 =>
 sel2 o2.1 (ou 0 [(gd o2.2 0)]) fun _ => none) := by kernel_rfl
theorem zG4 (a0 a1 : D) : z2j.F [a0, a1] = rn (
 (z0a (fun l2 =>
 if (decide ((gd l2 2).i < (a0.s.length : Int))) then
 (if (inb (gd l2 2).i a0.s.length) then
 if ((byteAt a0.s (gd l2 2).i.toNat : Int) == a1.i) then
 if (slOk (gd l2 1).i (gd l2 2).i (a0.s.length : Int)) then
 if (appOk 16 (gd l2 0).l ((.str ((a0.s.take (gd l2 2).i.toNat).drop (gd l2 1).i.toNat)) :: ([] : List D))) then
 ou 0 [(D.lst ((gd l2 0).l ++ ((.str ((a0.s.take (gd l2 2).i.toNat).drop (gd l2 1).i.toNat)) :: ([] : List D)))), (.int (IntKind.wrap .i64 ((gd l2 2).i + 1)))]
 else none
 else none
 else
 ou 0 [(gd l2 0), (gd l2 1)]
 else none).bind fun o5 =>
 sel2 o5.1 (ou 0 [(gd o5.2 0), (gd o5.2 1), (.int (IntKind.wrap .i64 ((gd l2 2).i + 1)))]) fun _ => none
 else
 ou 1 [(gd l2 0), (gd l2 1)]) [(D.lst []), (.int 0), (.int 0)]).bind fun o2 =>
 sel2 o2.1 (if (slOk (gd o2.2 1).i (a0.s.length : Int) (a0.s.length : Int)) then
 if (appOk 16 (gd o2.2 0).l ((.str ((a0.s.take (a0.s.length : Int).toNat).drop (gd o2.2 1).i.toNat)) :: ([] : List D))) then
 ou 0 [(D.lst ((gd o2.2 0).l ++ ((.str ((a0.s.take (a0.s.length : Int).toNat).drop (gd o2.2 1).i.toNat)) :: ([] : List D))))]
 else none
 else none) fun _ => none) := by kernel_rfl
theorem zG3 (a0 : D) : z3C.F [a0] = rn (
 if (a0.s == ([42] : List UInt8)) then
 ou 0 [(.bool true)]
 else
 (z0a (fun l1 =>
 if (decide ((gd l1 0).i < (a0.s.length : Int))) then
 if (inb (gd l1 0).i a0.s.length) then
 (if (decide ((byteAt a0.s (gd l1 0).i.toNat : Int) ≥ 97)) then
 if (decide ((byteAt a0.s (gd l1 0).i.toNat : Int) ≤ 122)) then
 ou 0 [(.bool (!true))]
 else
 if (decide ((byteAt a0.s (gd l1 0).i.toNat : Int) ≥ 48)) then
 if (decide ((byteAt a0.s (gd l1 0).i.toNat : Int) ≤ 57)) then
 ou 0 [(.bool (!true))]
 else
 if ((byteAt a0.s (gd l1 0).i.toNat : Int) == 45) then
 ou 0 [(.bool (!true))]
 else
 ou 0 [(.bool (!((byteAt a0.s (gd l1 0).i.toNat : Int) == 95)))]
 else
 if ((byteAt a0.s (gd l1 0).i.toNat : Int) == 45) then
 ou 0 [(.bool (!true))]
 else
 ou 0 [(.bool (!((byteAt a0.s (gd l1 0).i.toNat : Int) == 95)))]
 else
 if (decide ((byteAt a0.s (gd l1 0).i.toNat : Int) ≥ 48)) then
 if (decide ((byteAt a0.s (gd l1 0).i.toNat : Int) ≤ 57)) then
 ou 0 [(.bool (!true))]
 else
 if ((byteAt a0.s (gd l1 0).i.toNat : Int) == 45) then
 ou 0 [(.bool (!true))]
 else
 ou 0 [(.bool (!((byteAt a0.s (gd l1 0).i.toNat : Int) == 95)))]
 else
 if ((byteAt a0.s (gd l1 0).i.toNat : Int) == 45) then
 ou 0 [(.bool (!true))]
 else
 ou 0 [(.bool (!((byteAt a0.s (gd l1 0).i.toNat : Int) == 95)))]).bind fun o2 =>
 sel2 o2.1 (if (gd o2.2 0).b then
 ou 1 []
 else
 ou 0 [(.int (IntKind.wrap .i64 ((gd l1 0).i + 1)))]) fun _ => none
 else none
 else
 ou 2 []) [(.int 0)]).bind fun o1 =>
 sel2 o1.1 (ou 0 [(.bool false)]) fun n4 =>
 sel2 n4 ((z0l.F [(.int (a0.s.length : Int)), (.int 1), (.int 20)]).bind fun r1 =>
 ou 0 [r1]) fun _ => none) := by kernel_rfl
theorem zEn (a0 : D) : z0m.F [a0] = rn (
 if (a0.s == ([] : List UInt8)) then
 ou 0 [(.pair (D.lst []) (.pair (.bool true) .unit))]
 else
 (z2j.F [a0, (.int 46)]).bind fun r1 =>
 (z0a (fun l2 =>
 if (decide ((gd l2 0).i < (r1.l.length : Int))) then
 if (inb (gd l2 0).i r1.l.length) then
 (z3C.F [(gd r1.l (gd l2 0).i.toNat)]).bind fun r3 =>
 if (!r3.b) then
 ou 1 []
 else
 ou 0 [(.int (IntKind.wrap .i64 ((gd l2 0).i + 1)))]
 else none
 else
 ou 2 []) [(.int 0)]).bind fun o2 =>
 sel2 o2.1 (ou 0 [(.pair (D.lst []) (.pair (.bool false) .unit))]) fun n4 =>
 sel2 n4 ((if (decide ((a0.s.length : Int) ≤ 60)) then
 ou 0 [r1, (.bool (decide ((r1.l.length : Int) ≤ 8)))]
 else
 ou 0 [r1, (.bool false)]).bind fun o2 =>
 sel2 o2.1 (ou 0 [(.pair (gd o2.2 0) (.pair (gd o2.2 1) .unit))]) fun _ => none) fun _ => none) := by kernel_rfl
theorem zHn (a0 : D) : z3k.F [a0] = rn (
 (z0m.F [a0]).bind fun r1 =>
 (z0a (fun l2 =>
 if (decide ((gd l2 1).i < ((r1.fld 0).l.length : Int))) then
 (if (inb (gd l2 1).i (r1.fld 0).l.length) then
 if (gd l2 0).b then
 ou 0 [(.bool (!((gd (r1.fld 0).l (gd l2 1).i.toNat).s == ([42] : List UInt8))))]
 else
 ou 0 [(.bool false)]
 else none).bind fun o4 =>
 sel2 o4.1 (ou 0 [(gd o4.2 0), (.int (IntKind.wrap .i64 ((gd l2 1).i + 1)))]) fun _ => none
 else
 ou 1 [(gd l2 0)]) [(r1.fld 1), (.int 0)]).bind fun o2 =>
 sel2 o2.1 (ou 0 [(gd o2.2 0)]) fun _ => none) := by kernel_rfl
theorem zJN (a0 : D) : z2i.F [a0] = rn (
 ((z0l.F [(.int (a0.s.length : Int)), (.int 1), (.int 10)]).bind fun r1 =>
 if (!r1.b) then
 ou 0 [(.bool true)]
 else
 if (inb 0 a0.s.length) then
 if ((byteAt a0.s 0 : Int) == 48) then
 ou 0 [(.bool (decide ((a0.s.length : Int) > 1)))]
 else
 ou 0 [(.bool false)]
 else none).bind fun o1 =>
 sel2 o1.1 (if (gd o1.2 0).b then
 ou 0 [(.int (-1))]
 else
 (z0a (fun l2 =>
 if (decide ((gd l2 1).i < (a0.s.length : Int))) then
 (if (inb (gd l2 1).i a0.s.length) then
 if (decide ((byteAt a0.s (gd l2 1).i.toNat : Int) < 48)) then
 ou 0 [(.bool true)]
 else
 ou 0 [(.bool (decide ((byteAt a0.s (gd l2 1).i.toNat : Int) > 57)))]
 else none).bind fun o4 =>
 sel2 o4.1 (if (gd o4.2 0).b then
 ou 1 [(.int (-1))]
 else
 if (inb (gd l2 1).i a0.s.length) then
 ou 0 [(.int (IntKind.wrap .i64 ((IntKind.wrap .i64 (10 * (gd l2 0).i)) + (IntKind.wrap .i64 (IntKind.wrap .u8 ((byteAt a0.s (gd l2 1).i.toNat : Int) - 48)))))), (.int (IntKind.wrap .i64 ((gd l2 1).i + 1)))]
 else none) fun _ => none
 else
 ou 2 [(gd l2 0)]) [(.int 0), (.int 0)]).bind fun o2 =>
 sel2 o2.1 (ou 0 [(gd o2.2 0)]) fun n6 =>
 sel2 n6 (ou 0 [(gd o2.2 0)]) fun _ => none) fun _ => none) := by kernel_rfl
theorem z6Q (a0 a1 : D) : z1G.F [a0, a1] = rn (
 if (makeOk 1 a1.i) then
 (z0a (fun l2 =>
 if (decide ((gd l2 2).i ≥ 0)) then
 if (inb (gd l2 2).i (gd l2 1).l.length) then
 if (decide (0 ≤ 8)) then
 ou 0 [(.int ((gd l2 0).i.fdiv (2 ^ min 8 (IntKind.bits .i64)))), (D.lst ((gd l2 1).l.set (gd l2 2).i.toNat (.int (IntKind.wrap .u8 (gd l2 0).i)))), (.int (IntKind.wrap .i64 ((gd l2 2).i - 1)))]
 else none
 else none
 else
 ou 1 [(gd l2 1)]) [a0, (D.lst (List.replicate a1.i.toNat ((.int 0) : D))), (.int (IntKind.wrap .i64 (a1.i - 1)))]).bind fun o2 =>
 sel2 o2.1 (ou 0 [(.str (z0e (gd o2.2 0).l))]) fun _ => none
 else none) := by kernel_rfl
theorem zEp (a0 : D) : z3Z.F [a0] = rn (
 (z0m.F [a0]).bind fun r1 =>
 (z0a (fun l2 =>
 if (decide ((gd l2 1).i < ((r1.fld 0).l.length : Int))) then
 (if (inb (gd l2 1).i (r1.fld 0).l.length) then
 if (gd l2 0).b then
 ou 0 [(.bool (!((gd (r1.fld 0).l (gd l2 1).i.toNat).s == ([42] : List UInt8))))]
 else
 ou 0 [(.bool false)]
 else none).bind fun o4 =>
 sel2 o4.1 (ou 0 [(gd o4.2 0), (.int (IntKind.wrap .i64 ((gd l2 1).i + 1)))]) fun _ => none
 else
 ou 1 [(gd l2 0)]) [(r1.fld 1), (.int 0)]).bind fun o2 =>
 sel2 o2.1 ((if (gd o2.2 0).b then
 ou 0 [(.bool (!(a0.s == ([] : List UInt8))))]
 else
 ou 0 [(.bool false)]).bind fun o3 =>
 sel2 o3.1 (ou 0 [(gd o3.2 0)]) fun _ => none) fun _ => none) := by kernel_rfl
theorem z8s (a0 : D) : z3D.F [a0] = rn (
 (z0m.F [a0]).bind fun r1 =>
 (z0a (fun l2 =>
 if (decide ((gd l2 1).i < ((r1.fld 0).l.length : Int))) then
 if (inb (gd l2 1).i (r1.fld 0).l.length) then
 if (catOk (z0e ((.int (IntKind.wrap .u8 ((gd (r1.fld 0).l (gd l2 1).i.toNat).s.length : Int))) :: ([] : List D))) (gd (r1.fld 0).l (gd l2 1).i.toNat).s) then
 if (catOk (gd l2 0).s ((z0e ((.int (IntKind.wrap .u8 ((gd (r1.fld 0).l (gd l2 1).i.toNat).s.length : Int))) :: ([] : List D))) ++ (gd (r1.fld 0).l (gd l2 1).i.toNat).s)) then
 ou 0 [(.str ((gd l2 0).s ++ ((z0e ((.int (IntKind.wrap .u8 ((gd (r1.fld 0).l (gd l2 1).i.toNat).s.length : Int))) :: ([] : List D))) ++ (gd (r1.fld 0).l (gd l2 1).i.toNat).s))), (.int (IntKind.wrap .i64 ((gd l2 1).i + 1)))]
 else none
 else none
 else none
 else
 ou 1 [(gd l2 0)]) [(D.str []), (.int 0)]).bind fun o2 =>
 sel2 o2.1 (if (catOk (gd o2.2 0).s ([0] : List UInt8)) then
 ou 0 [(.str ((gd o2.2 0).s ++ ([0] : List UInt8)))]
 else none) fun _ => none) := by kernel_rfl
theorem z5j (a0 a1 : D) : z1I.F [a0, a1] = rn (
 if (a0.i == 1) then
 (z2j.F [a1, (.int 46)]).bind fun r2 =>
 (z0a (fun l3 =>
 if (decide ((gd l3 1).i < (r2.l.length : Int))) then
 if (inb (gd l3 1).i r2.l.length) then
 (z2i.F [(gd r2.l (gd l3 1).i.toNat)]).bind fun r5 =>
 (z0l.F [r5, (.int 0), (.int 255)]).bind fun r6 =>
 if (!r6.b) then
 ou 1 []
 else
 (z1G.F [r5, (.int 1)]).bind fun r7 =>
 if (catOk (gd l3 0).s r7.s) then
 ou 0 [(.str ((gd l3 0).s ++ r7.s)), (.int (IntKind.wrap .i64 ((gd l3 1).i + 1)))]
 else none
 else none
 else
 ou 2 [(gd l3 0)]) [(D.str []), (.int 0)]).bind fun o3 =>
 sel2 o3.1 (ou 0 [(.pair (D.str []) (.pair (.bool false) .unit))]) fun n4 =>
 sel2 n4 (ou 0 [(.pair (gd o3.2 0) (.pair (.bool ((r2.l.length : Int) == 4)) .unit))]) fun _ => none
 else
 (if (a0.i == 2) then
 ou 0 [(.bool (a0.i == 2))]
 else
 ou 0 [(.bool (a0.i == 5))]).bind fun o2 =>
 sel2 o2.1 (if (gd o2.2 0).b then
 (z3Z.F [a1]).bind fun r3 =>
 if (!r3.b) then
 ou 0 [(.pair (D.str []) (.pair (.bool false) .unit))]
 else
 (z3D.F [a1]).bind fun r4 =>
 ou 0 [(.pair r4 (.pair (.bool true) .unit))]
 else
 if (a0.i == 6) then
 (z2i.F [a1]).bind fun r3 =>
 (z1G.F [r3, (.int 4)]).bind fun r4 =>
 (z0l.F [r3, (.int 0), (.int 4294967295)]).bind fun r5 =>
 ou 0 [(.pair r4 (.pair r5 .unit))]
 else
 if (a0.i == 15) then
 (z2j.F [a1, (.int 32)]).bind fun r3 =>
 (if ((r3.l.length : Int) != 2) then
 ou 0 [(.bool true)]
 else
 if (inb 0 r3.l.length) then
 (z2i.F [(gd r3.l 0)]).bind fun r4 =>
 (z0l.F [r4, (.int 0), (.int 65535)]).bind fun r5 =>
 if (!r5.b) then
 ou 0 [(.bool true)]
 else
 if (inb 1 r3.l.length) then
 (z3Z.F [(gd r3.l 1)]).bind fun r6 =>
 ou 0 [(.bool (!r6.b))]
 else none
 else none).bind fun o4 =>
 sel2 o4.1 (if (gd o4.2 0).b then
 ou 0 [(.pair (D.str []) (.pair (.bool false) .unit))]
 else
 if (inb 0 r3.l.length) then
 (z2i.F [(gd r3.l 0)]).bind fun r5 =>
 (z1G.F [r5, (.int 2)]).bind fun r6 =>
 if (inb 1 r3.l.length) then
 (z3D.F [(gd r3.l 1)]).bind fun r7 =>
 if (catOk r6.s r7.s) then
 ou 0 [(.pair (.str (r6.s ++ r7.s)) (.pair (.bool true) .unit))]
 else none
 else none
 else none) fun _ => none
 else
 if (a0.i == 16) then
 (z0a (fun l3 =>
 if (decide ((gd l3 0).i < (a1.s.length : Int))) then
 (if (inb (gd l3 0).i a1.s.length) then
 if (decide ((byteAt a1.s (gd l3 0).i.toNat : Int) < 32)) then
 ou 0 [(.bool true)]
 else
 ou 0 [(.bool (decide ((byteAt a1.s (gd l3 0).i.toNat : Int) > 126)))]
 else none).bind fun o4 =>
 sel2 o4.1 (if (gd o4.2 0).b then
 ou 1 [(D.str []), (.bool false)]
 else
 ou 0 [(.int (IntKind.wrap .i64 ((gd l3 0).i + 1)))]) fun _ => none
 else
 ou 2 []) [(.int 0)]).bind fun o3 =>
 sel2 o3.1 (ou 0 [(.pair (gd o3.2 0) (.pair (gd o3.2 1) .unit))]) fun n14 =>
 sel2 n14 (if (catOk (z0e ((.int (IntKind.wrap .u8 (a1.s.length : Int))) :: ([] : List D))) a1.s) then
 ou 0 [(.pair (.str ((z0e ((.int (IntKind.wrap .u8 (a1.s.length : Int))) :: ([] : List D))) ++ a1.s)) (.pair (.bool (decide ((a1.s.length : Int) ≤ 30))) .unit))]
 else none) fun _ => none
 else
 ou 0 [(.pair (D.str []) (.pair (.bool false) .unit))]) fun _ => none) := by kernel_rfl
theorem zEl (a0 : D) : z4Q.F [a0] = rn (
 (z0m.F [a0]).bind fun r1 =>
 ou 0 [(r1.fld 1)]) := by kernel_rfl
theorem zBJ (a0 : D) : z2A.F [a0] = rn (
 (z1I.F [(a0.fld 1), (a0.fld 3)]).bind fun r1 =>
 (if (r1.fld 1).b then
 (z4Q.F [(a0.fld 0)]).bind fun r2 =>
 if r2.b then
 (z0l.F [(a0.fld 2), (.int 0), (.int 100000)]).bind fun r3 =>
 ou 0 [r3]
 else
 ou 0 [(.bool false)]
 else
 ou 0 [(.bool false)]).bind fun o2 =>
 sel2 o2.1 (ou 0 [(gd o2.2 0)]) fun _ => none) := by kernel_rfl
theorem zCd (a0 a1 : D) : z3z.F [a0, a1] = rn (
 (z0m.F [a0]).bind fun r2 =>
 (z0m.F [a1]).bind fun r3 =>
 (z0a (fun l4 =>
 (if (decide ((gd l4 0).i ≤ ((r2.fld 0).l.length : Int))) then
 ou 0 [(.bool (decide ((gd l4 0).i ≤ ((r3.fld 0).l.length : Int))))]
 else
 ou 0 [(.bool false)]).bind fun o5 =>
 sel2 o5.1 (if (gd o5.2 0).b then
 if (inb (IntKind.wrap .i64 (((r2.fld 0).l.length : Int) - (gd l4 0).i)) (r2.fld 0).l.length) then
 if (inb (IntKind.wrap .i64 (((r3.fld 0).l.length : Int) - (gd l4 0).i)) (r3.fld 0).l.length) then
 if (Op.bytesLess (gd (r2.fld 0).l (IntKind.wrap .i64 (((r2.fld 0).l.length : Int) - (gd l4 0).i)).toNat).s (gd (r3.fld 0).l (IntKind.wrap .i64 (((r3.fld 0).l.length : Int) - (gd l4 0).i)).toNat).s) then
 ou 1 [(.int (-1))]
 else
 if (!(Op.bytesLess (gd (r2.fld 0).l (IntKind.wrap .i64 (((r2.fld 0).l.length : Int) - (gd l4 0).i)).toNat).s (gd (r3.fld 0).l (IntKind.wrap .i64 (((r3.fld 0).l.length : Int) - (gd l4 0).i)).toNat).s || (gd (r2.fld 0).l (IntKind.wrap .i64 (((r2.fld 0).l.length : Int) - (gd l4 0).i)).toNat).s == (gd (r3.fld 0).l (IntKind.wrap .i64 (((r3.fld 0).l.length : Int) - (gd l4 0).i)).toNat).s)) then
 ou 1 [(.int 1)]
 else
 ou 0 [(.int (IntKind.wrap .i64 ((gd l4 0).i + 1)))]
 else none
 else none
 else
 ou 2 []) fun _ => none) [(.int 1)]).bind fun o4 =>
 sel2 o4.1 (ou 0 [(gd o4.2 0)]) fun n2 =>
 sel2 n2 (if (decide (((r2.fld 0).l.length : Int) < ((r3.fld 0).l.length : Int))) then
 ou 0 [(.int (-1))]
 else
 if (decide (((r2.fld 0).l.length : Int) > ((r3.fld 0).l.length : Int))) then
 ou 0 [(.int 1)]
 else
 ou 0 [(.int 0)]) fun _ => none) := by kernel_rfl
theorem zHm (a0 : D) : z3j.F [a0] = rn (
 if a0.b then
 ou 0 [(.int (-1))]
 else
 ou 0 [(.int 1)]) := by kernel_rfl
theorem zCe (a0 a1 : D) : z0z.F [a0, a1] = rn (
 (z3z.F [(a0.fld 0), (a1.fld 0)]).bind fun r2 =>
 if (r2.i != 0) then
 ou 0 [r2]
 else
 (z1I.F [(a0.fld 1), (a0.fld 3)]).bind fun r3 =>
 (z1I.F [(a1.fld 1), (a1.fld 3)]).bind fun r4 =>
 if ((a0.fld 1).i != (a1.fld 1).i) then
 (z3j.F [(.bool (decide ((a0.fld 1).i < (a1.fld 1).i)))]).bind fun r5 =>
 ou 0 [r5]
 else
 if (!((r3.fld 0).s == (r4.fld 0).s)) then
 (z3j.F [(.bool (Op.bytesLess (r3.fld 0).s (r4.fld 0).s))]).bind fun r5 =>
 ou 0 [r5]
 else
 if ((a0.fld 2).i != (a1.fld 2).i) then
 (z3j.F [(.bool (decide ((a0.fld 2).i < (a1.fld 2).i)))]).bind fun r5 =>
 ou 0 [r5]
 else
 ou 0 [(.int 0)]) := by kernel_rfl
theorem zHp (a0 : D) : z5K.F [a0] = rn (
 (z0a (fun l1 =>
 if (decide ((gd l1 0).i < (a0.l.length : Int))) then
 if (inb (gd l1 0).i a0.l.length) then
 ((z2A.F [(gd a0.l (gd l1 0).i.toNat)]).bind fun r2 =>
 if (!r2.b) then
 ou 0 [(.bool true)]
 else
 if (decide ((gd l1 0).i > 0)) then
 if (inb (IntKind.wrap .i64 ((gd l1 0).i - 1)) a0.l.length) then
 (z0z.F [(gd a0.l (IntKind.wrap .i64 ((gd l1 0).i - 1)).toNat), (gd a0.l (gd l1 0).i.toNat)]).bind fun r3 =>
 ou 0 [(.bool (decide (r3.i ≥ 0)))]
 else none
 else
 ou 0 [(.bool false)]).bind fun o2 =>
 sel2 o2.1 (if (gd o2.2 0).b then
 ou 1 []
 else
 ou 0 [(.int (IntKind.wrap .i64 ((gd l1 0).i + 1)))]) fun _ => none
 else none
 else
 ou 2 []) [(.int 0)]).bind fun o1 =>
 sel2 o1.1 (ou 0 [(.bool false)]) fun n2 =>
 sel2 n2 (ou 0 [(.bool (decide ((a0.l.length : Int) ≤ 40)))]) fun _ => none) := by kernel_rfl
theorem zG2 (a0 a1 : D) : z1d.F [a0, a1] = rn (
 (if (a1.s == ([] : List UInt8)) then
 ou 0 [(.bool true)]
 else
 if (a0.s == a1.s) then
 ou 0 [(.bool true)]
 else
 if (decide ((IntKind.wrap .i64 ((a0.s.length : Int) - (a1.s.length : Int))) > 0)) then
 if (slOk (IntKind.wrap .i64 ((a0.s.length : Int) - (a1.s.length : Int))) (a0.s.length : Int) (a0.s.length : Int)) then
 if (((a0.s.take (a0.s.length : Int).toNat).drop (IntKind.wrap .i64 ((a0.s.length : Int) - (a1.s.length : Int))).toNat) == a1.s) then
 if (inb (IntKind.wrap .i64 ((IntKind.wrap .i64 ((a0.s.length : Int) - (a1.s.length : Int))) - 1)) a0.s.length) then
 ou 0 [(.bool ((byteAt a0.s (IntKind.wrap .i64 ((IntKind.wrap .i64 ((a0.s.length : Int) - (a1.s.length : Int))) - 1)).toNat : Int) == 46))]
 else none
 else
 ou 0 [(.bool false)]
 else none
 else
 ou 0 [(.bool false)]).bind fun o2 =>
 sel2 o2.1 (ou 0 [(gd o2.2 0)]) fun _ => none) := by kernel_rfl
theorem zJR (a0 a1 a2 : D) : z1l.F [a0, a1, a2] = rn (
 (z0a (fun l3 =>
 if (decide ((gd l3 0).i < (a0.l.length : Int))) then
 if (inb (gd l3 0).i a0.l.length) then
 (if (((gd a0.l (gd l3 0).i.toNat).fld 0).s == a1.s) then
 ou 0 [(.bool (((gd a0.l (gd l3 0).i.toNat).fld 1).i == a2.i))]
 else
 ou 0 [(.bool false)]).bind fun o4 =>
 sel2 o4.1 (if (gd o4.2 0).b then
 ou 1 [(.bool true)]
 else
 ou 0 [(.int (IntKind.wrap .i64 ((gd l3 0).i + 1)))]) fun _ => none
 else none
 else
 ou 2 []) [(.int 0)]).bind fun o3 =>
 sel2 o3.1 (ou 0 [(gd o3.2 0)]) fun n2 =>
 sel2 n2 (ou 0 [(.bool false)]) fun _ => none) := by kernel_rfl
theorem zEo (a0 : D) : z3Y.F [a0] = rn (
 (z0a (fun l1 =>
 if (decide ((gd l1 0).i < (a0.s.length : Int))) then
 if (inb (gd l1 0).i a0.s.length) then
 if ((byteAt a0.s (gd l1 0).i.toNat : Int) == 46) then
 if (slOk (IntKind.wrap .i64 ((gd l1 0).i + 1)) (a0.s.length : Int) (a0.s.length : Int)) then
 ou 1 [(.str ((a0.s.take (a0.s.length : Int).toNat).drop (IntKind.wrap .i64 ((gd l1 0).i + 1)).toNat))]
 else none
 else
 ou 0 [(.int (IntKind.wrap .i64 ((gd l1 0).i + 1)))]
 else none
 else
 ou 2 []) [(.int 0)]).bind fun o1 =>
 sel2 o1.1 (ou 0 [(gd o1.2 0)]) fun n2 =>
 sel2 n2 (ou 0 [(D.str [])]) fun _ => none) := by kernel_rfl
theorem zJQ (a0 a1 a2 : D) : z50.F [a0, a1, a2] = rn (
 (z0a (fun l3 =>
 (if (!((gd l3 0).s == a0.s)) then
 (z1d.F [(gd l3 0), a0]).bind fun r6 =>
 ou 0 [r6]
 else
 ou 0 [(.bool false)]).bind fun o6 =>
 sel2 o6.1 (if (gd o6.2 0).b then
 ((z1l.F [a1, (gd l3 0), (.int 2)]).bind fun r7 =>
 if r7.b then
 ou 0 [(gd l3 0), (.bool true)]
 else
 ou 0 [(gd l3 1), (gd l3 2)]).bind fun o7 =>
 sel2 o7.1 (if ((gd l3 0).s == ([] : List UInt8)) then
 ou 1 [(gd o7.2 0), (gd o7.2 1)]
 else
 (z3Y.F [(gd l3 0)]).bind fun r9 =>
 ou 0 [r9, (gd o7.2 0), (gd o7.2 1)]) fun _ => none
 else
 ou 1 [(gd l3 1), (gd l3 2)]) fun _ => none) [a2, (D.str []), (.bool false)]).bind fun o3 =>
 sel2 o3.1 (ou 0 [(.pair (gd o3.2 0) (.pair (gd o3.2 1) .unit))]) fun _ => none) := by kernel_rfl
theorem zHq (a0 a1 : D) : z3l.F [a0, a1] = rn (
 (z0a (fun l2 =>
 if (decide ((gd l2 1).i < (a1.l.length : Int))) then
 (if (inb (gd l2 1).i a1.l.length) then
 (z1d.F [((gd a1.l (gd l2 1).i.toNat).fld 0), a0]).bind fun r4 =>
 if (!r4.b) then
 ou 1 [(.int 1)]
 else
 if (((gd a1.l (gd l2 1).i.toNat).fld 1).i == 6) then
 if (!(((gd a1.l (gd l2 1).i.toNat).fld 0).s == a0.s)) then
 ou 0 [(.int (IntKind.wrap .i64 ((IntKind.wrap .i64 ((gd l2 0).i + 1)) + 1)))]
 else
 ou 0 [(.int (IntKind.wrap .i64 ((gd l2 0).i + 1)))]
 else
 ou 0 [(gd l2 0)]
 else none).bind fun o4 =>
 sel2 o4.1 (ou 0 [(gd o4.2 0), (.int (IntKind.wrap .i64 ((gd l2 1).i + 1)))]) fun n8 =>
 sel2 n8 (ou 1 [(gd o4.2 0)]) fun _ => none
 else
 ou 2 [(gd l2 0)]) [(.int 0), (.int 0)]).bind fun o2 =>
 sel2 o2.1 (ou 0 [(gd o2.2 0)]) fun n2 =>
 sel2 n2 (if ((gd o2.2 0).i != 1) then
 ou 0 [(.int 2)]
 else
 (z0a (fun l3 =>
 if (decide ((gd l3 0).i < (a1.l.length : Int))) then
 if (inb (gd l3 0).i a1.l.length) then
 (if (decide ((gd l3 0).i > 0)) then
 if (inb (IntKind.wrap .i64 ((gd l3 0).i - 1)) a1.l.length) then
 if (((gd a1.l (IntKind.wrap .i64 ((gd l3 0).i - 1)).toNat).fld 0).s == ((gd a1.l (gd l3 0).i.toNat).fld 0).s) then
 if (((gd a1.l (IntKind.wrap .i64 ((gd l3 0).i - 1)).toNat).fld 1).i == ((gd a1.l (gd l3 0).i.toNat).fld 1).i) then
 if (((gd a1.l (IntKind.wrap .i64 ((gd l3 0).i - 1)).toNat).fld 2).i != ((gd a1.l (gd l3 0).i.toNat).fld 2).i) then
 ou 0 [(.bool true)]
 else
 ou 0 [(.bool (((gd a1.l (IntKind.wrap .i64 ((gd l3 0).i - 1)).toNat).fld 3).s == ((gd a1.l (gd l3 0).i.toNat).fld 3).s))]
 else
 ou 0 [(.bool false)]
 else
 ou 0 [(.bool false)]
 else none
 else
 ou 0 [(.bool false)]).bind fun o4 =>
 sel2 o4.1 (if (gd o4.2 0).b then
 ou 1 [(.int 3)]
 else
 ou 0 [(.int (IntKind.wrap .i64 ((gd l3 0).i + 1)))]) fun _ => none
 else none
 else
 ou 2 []) [(.int 0)]).bind fun o3 =>
 sel2 o3.1 (ou 0 [(gd o3.2 0)]) fun n6 =>
 sel2 n6 ((z0a (fun l3 =>
 if (decide ((gd l3 0).i < (a1.l.length : Int))) then
 if (inb (gd l3 0).i a1.l.length) then
 if (slOk 0 (gd l3 0).i (a1.l.length : Int)) then
 (z0a (fun l4 =>
 if (decide ((gd l4 0).i < (((a1.l.take (gd l3 0).i.toNat).drop 0).length : Int))) then
 if (inb (gd l4 0).i ((a1.l.take (gd l3 0).i.toNat).drop 0).length) then
 (if (((gd (D.lst ((a1.l.take (gd l3 0).i.toNat).drop 0)).l (gd l4 0).i.toNat).fld 0).s == ((gd a1.l (gd l3 0).i.toNat).fld 0).s) then
 if (((gd (D.lst ((a1.l.take (gd l3 0).i.toNat).drop 0)).l (gd l4 0).i.toNat).fld 1).i == 5) then
 ou 0 [(.bool true)]
 else
 ou 0 [(.bool (((gd a1.l (gd l3 0).i.toNat).fld 1).i == 5))]
 else
 ou 0 [(.bool false)]).bind fun o5 =>
 sel2 o5.1 (if (gd o5.2 0).b then
 ou 1 [(.int 4)]
 else
 ou 0 [(.int (IntKind.wrap .i64 ((gd l4 0).i + 1)))]) fun _ => none
 else none
 else
 ou 2 []) [(.int 0)]).bind fun o4 =>
 sel2 o4.1 (ou 1 [(gd o4.2 0)]) fun n14 =>
 sel2 n14 (ou 0 [(.int (IntKind.wrap .i64 ((gd l3 0).i + 1)))]) fun _ => none
 else none
 else none
 else
 ou 2 []) [(.int 0)]).bind fun o3 =>
 sel2 o3.1 (ou 0 [(gd o3.2 0)]) fun n8 =>
 sel2 n8 ((z1l.F [a1, a0, (.int 5)]).bind fun r3 =>
 if r3.b then
 ou 0 [(.int 5)]
 else
 (z0a (fun l4 =>
 if (decide ((gd l4 0).i < (a1.l.length : Int))) then
 if (inb (gd l4 0).i a1.l.length) then
 (z50.F [a0, a1, ((gd a1.l (gd l4 0).i.toNat).fld 0)]).bind fun r5 =>
 (if (r5.fld 1).b then
 if (((gd a1.l (gd l4 0).i.toNat).fld 1).i != 1) then
 if (((gd a1.l (gd l4 0).i.toNat).fld 1).i != 2) then
 ou 0 [(.bool true)]
 else
 ou 0 [(.bool (!(((gd a1.l (gd l4 0).i.toNat).fld 0).s == (r5.fld 0).s)))]
 else
 ou 0 [(.bool false)]
 else
 ou 0 [(.bool false)]).bind fun o6 =>
 sel2 o6.1 (if (gd o6.2 0).b then
 ou 1 [(.int 6)]
 else
 ou 0 [(.int (IntKind.wrap .i64 ((gd l4 0).i + 1)))]) fun _ => none
 else none
 else
 ou 2 []) [(.int 0)]).bind fun o4 =>
 sel2 o4.1 (ou 0 [(gd o4.2 0)]) fun n12 =>
 sel2 n12 (ou 0 [(.int 0)]) fun _ => none) fun _ => none) fun _ => none) fun _ => none) := by kernel_rfl
theorem zHj (a0 a1 : D) : z5I.F [a0, a1] = rn (
 ((z3k.F [a0]).bind fun r2 =>
 if (!r2.b) then
 ou 0 [(.bool true)]
 else
 (z5K.F [a1]).bind fun r3 =>
 ou 0 [(.bool (!r3.b))]).bind fun o2 =>
 sel2 o2.1 (if (gd o2.2 0).b then
 ou 0 [(.int 9)]
 else
 (z3l.F [a0, a1]).bind fun r3 =>
 ou 0 [r3]) fun _ => none) := by kernel_rfl
theorem zJO (k : Nat) (a0 : D) : z40 (k + 1) [a0] = rn (
 if (decide (a0.i < 10)) then
 ou 0 [(.str (z0e ((.int (IntKind.wrap .u8 (IntKind.wrap .i64 (48 + a0.i)))) :: ([] : List D))))]
 else
 if (10 != 0) then
 (z40 k [(.int (IntKind.wrap .i64 (a0.i.tdiv 10)))]).bind fun r1 =>
 if (catOk r1.s (z0e ((.int (IntKind.wrap .u8 (IntKind.wrap .i64 (48 + (a0.i.tmod 10))))) :: ([] : List D)))) then
 ou 0 [(.str (r1.s ++ (z0e ((.int (IntKind.wrap .u8 (IntKind.wrap .i64 (48 + (a0.i.tmod 10))))) :: ([] : List D)))))]
 else none
 else none) := by kernel_rfl
theorem zJT (a0 : D) : z3f.F [a0] = rn (
 if (4294967296 != 0) then
 (z6Z.F [(.int ((a0.fld 1).i.tmod 4294967296))]).bind fun r1 =>
 ou 0 [r1]
 else none) := by kernel_rfl
theorem zEm (a0 : D) : z4R.F [a0] = rn (
 ((z0l.F [(a0.fld 1), (.int 0), (.int 1152921504606846976)]).bind fun r1 =>
 if (!r1.b) then
 ou 0 [(.bool true)]
 else
 (z5I.F [(a0.fld 0), (a0.fld 2)]).bind fun r2 =>
 ou 0 [(.bool (r2.i != 0))]).bind fun o1 =>
 sel2 o1.1 (if (gd o1.2 0).b then
 ou 0 [(.bool false)]
 else
 (z0a (fun l2 =>
 if (decide ((gd l2 0).i < ((a0.fld 2).l.length : Int))) then
 if (inb (gd l2 0).i (a0.fld 2).l.length) then
 (if (((gd (a0.fld 2).l (gd l2 0).i.toNat).fld 1).i == 6) then
 (z3f.F [a0]).bind fun r3 =>
 ou 0 [(.bool (!(((gd (a0.fld 2).l (gd l2 0).i.toNat).fld 3).s == r3.s)))]
 else
 ou 0 [(.bool false)]).bind fun o3 =>
 sel2 o3.1 (if (gd o3.2 0).b then
 ou 1 [(.bool false)]
 else
 ou 0 [(.int (IntKind.wrap .i64 ((gd l2 0).i + 1)))]) fun _ => none
 else none
 else
 ou 2 []) [(.int 0)]).bind fun o2 =>
 sel2 o2.1 (ou 0 [(gd o2.2 0)]) fun n6 =>
 sel2 n6 (ou 0 [(.bool true)]) fun _ => none) fun _ => none) := by kernel_rfl
theorem zJS (a0 : D) : z2O.F [a0] = rn (
 if (appOk 48 ([] : List D) (a0.fld 2).l) then
 ou 0 [(a0.setFld 2 (D.lst (([] : List D) ++ (a0.fld 2).l)))]
 else none) := by kernel_rfl
theorem zHk (a0 : D) : z4V.F [a0] = rn (
 (z2O.F [(a0.fld 0)]).bind fun r1 =>
 if (appOk 32 ([] : List D) (a0.fld 1).l) then
 ou 0 [((a0.setFld 0 r1).setFld 1 (D.lst (([] : List D) ++ (a0.fld 1).l)))]
 else none) := by kernel_rfl
theorem zG5 (a0 : D) : z4l.F [a0] = rn (
 (z0a (fun l1 =>
 if (decide ((gd l1 0).i < (a0.l.length : Int))) then
 if (inb (gd l1 0).i a0.l.length) then
 ((z0l.F [((gd a0.l (gd l1 0).i.toNat).fld 0), (.int 1), (.int 4)]).bind fun r2 =>
 if (!r2.b) then
 ou 0 [(.bool true)]
 else
 (z2A.F [((gd a0.l (gd l1 0).i.toNat).fld 1)]).bind fun r3 =>
 if (!r3.b) then
 ou 0 [(.bool true)]
 else
 ou 0 [(.bool ((((gd a0.l (gd l1 0).i.toNat).fld 1).fld 1).i == 6))]).bind fun o2 =>
 sel2 o2.1 (if (gd o2.2 0).b then
 ou 1 []
 else
 ou 0 [(.int (IntKind.wrap .i64 ((gd l1 0).i + 1)))]) fun _ => none
 else none
 else
 ou 2 []) [(.int 0)]).bind fun o1 =>
 sel2 o1.1 (ou 0 [(.bool false)]) fun n2 =>
 sel2 n2 (ou 0 [(.bool (decide ((a0.l.length : Int) ≤ 12)))]) fun _ => none) := by kernel_rfl
theorem zHo (a0 a1 : D) : z1U.F [a0, a1] = rn (
 (z0a (fun l2 =>
 if (decide ((gd l2 1).i < (a0.l.length : Int))) then
 (if (inb (gd l2 1).i a0.l.length) then
 (if (!(((gd a0.l (gd l2 1).i.toNat).fld 0).s == (a1.fld 0).s)) then
 ou 0 [(.bool true)]
 else
 if (((gd a0.l (gd l2 1).i.toNat).fld 1).i != (a1.fld 1).i) then
 ou 0 [(.bool true)]
 else
 ou 0 [(.bool (!(((gd a0.l (gd l2 1).i.toNat).fld 3).s == (a1.fld 3).s)))]).bind fun o4 =>
 sel2 o4.1 (if (gd o4.2 0).b then
 if (appOk 48 (gd l2 0).l ((gd a0.l (gd l2 1).i.toNat) :: ([] : List D))) then
 ou 0 [(D.lst ((gd l2 0).l ++ ((gd a0.l (gd l2 1).i.toNat) :: ([] : List D))))]
 else none
 else
 ou 0 [(gd l2 0)]) fun _ => none
 else none).bind fun o4 =>
 sel2 o4.1 (ou 0 [(gd o4.2 0), (.int (IntKind.wrap .i64 ((gd l2 1).i + 1)))]) fun _ => none
 else
 ou 1 [(gd l2 0)]) [(D.lst []), (.int 0)]).bind fun o2 =>
 sel2 o2.1 (ou 0 [(gd o2.2 0)]) fun _ => none) := by kernel_rfl
theorem zJP (a0 a1 : D) : z3e.F [a0, a1] = rn (
 (z0a (fun l2 =>
 (if (decide ((gd l2 0).i < (a0.l.length : Int))) then
 if (inb (gd l2 0).i a0.l.length) then
 (z0z.F [(gd a0.l (gd l2 0).i.toNat), a1]).bind fun r3 =>
 ou 0 [(.bool (decide (r3.i < 0)))]
 else none
 else
 ou 0 [(.bool false)]).bind fun o3 =>
 sel2 o3.1 (if (gd o3.2 0).b then
 ou 0 [(.int (IntKind.wrap .i64 ((gd l2 0).i + 1)))]
 else
 ou 1 [(gd l2 0)]) fun _ => none) [(.int 0)]).bind fun o2 =>
 sel2 o2.1 ((if (decide ((gd o2.2 0).i < (a0.l.length : Int))) then
 if (inb (gd o2.2 0).i a0.l.length) then
 ou 0 [(.bool (D.beq (gd a0.l (gd o2.2 0).i.toNat) a1))]
 else none
 else
 ou 0 [(.bool false)]).bind fun o3 =>
 sel2 o3.1 (if (gd o3.2 0).b then
 ou 0 [a0]
 else
 if (slOk 0 (gd o2.2 0).i (a0.l.length : Int)) then
 if (appOk 48 ([] : List D) ((a0.l.drop 0).take (((gd o2.2 0).i.toNat - 0 : Nat) : Int).toNat)) then
 if (appOk 48 (([] : List D) ++ ((a0.l.drop 0).take (((gd o2.2 0).i.toNat - 0 : Nat) : Int).toNat)) (a1 :: ([] : List D))) then
 if (slOk (gd o2.2 0).i (a0.l.length : Int) (a0.l.length : Int)) then
 if (appOk 48 ((([] : List D) ++ ((a0.l.drop 0).take (((gd o2.2 0).i.toNat - 0 : Nat) : Int).toNat)) ++ (a1 :: ([] : List D))) ((a0.l.drop (gd o2.2 0).i.toNat).take (((a0.l.length : Int).toNat - (gd o2.2 0).i.toNat : Nat) : Int).toNat)) then
 ou 0 [(D.lst (((([] : List D) ++ ((a0.l.drop 0).take (((gd o2.2 0).i.toNat - 0 : Nat) : Int).toNat)) ++ (a1 :: ([] : List D))) ++ ((a0.l.drop (gd o2.2 0).i.toNat).take (((a0.l.length : Int).toNat - (gd o2.2 0).i.toNat : Nat) : Int).toNat)))]
 else none
 else none
 else none
 else none
 else none) fun _ => none) fun _ => none) := by kernel_rfl
theorem zBI (a0 a1 : D) : z2m.F [a0, a1] = rn (
 (z4R.F [a0]).bind fun r2 =>
 if (!r2.b) then
 ou 0 [(.pair (.pair (.str []) (.pair (.int 0) (.pair (D.lst []) .unit))) (.pair (.int 1) .unit))]
 else
 (z4l.F [a1]).bind fun r3 =>
 if (!r3.b) then
 (z2O.F [a0]).bind fun r4 =>
 ou 0 [(.pair r4 (.pair (.int 1) .unit))]
 else
 (z0a (fun l4 =>
 if (decide ((gd l4 0).i < (a1.l.length : Int))) then
 if (inb (gd l4 0).i a1.l.length) then
 (z1l.F [(a0.fld 2), (((gd a1.l (gd l4 0).i.toNat).fld 1).fld 0), (((gd a1.l (gd l4 0).i.toNat).fld 1).fld 1)]).bind fun r5 =>
 (if (((gd a1.l (gd l4 0).i.toNat).fld 0).i == 3) then
 if (!r5.b) then
 ou 0 [(.bool true)]
 else
 if (((gd a1.l (gd l4 0).i.toNat).fld 0).i == 4) then
 ou 0 [r5]
 else
 ou 0 [(.bool false)]
 else
 if (((gd a1.l (gd l4 0).i.toNat).fld 0).i == 4) then
 ou 0 [r5]
 else
 ou 0 [(.bool false)]).bind fun o6 =>
 sel2 o6.1 (if (gd o6.2 0).b then
 (z2O.F [a0]).bind fun r7 =>
 ou 1 [r7, (.int 2)]
 else
 ou 0 [(.int (IntKind.wrap .i64 ((gd l4 0).i + 1)))]) fun _ => none
 else none
 else
 ou 2 []) [(.int 0)]).bind fun o4 =>
 sel2 o4.1 (ou 0 [(.pair (gd o4.2 0) (.pair (gd o4.2 1) .unit))]) fun n6 =>
 sel2 n6 (if (appOk 48 ([] : List D) (a0.fld 2).l) then
 (z0a (fun l4 =>
 if (decide ((gd l4 1).i < (a1.l.length : Int))) then
 (if (inb (gd l4 1).i a1.l.length) then
 if (((gd a1.l (gd l4 1).i.toNat).fld 0).i == 2) then
 (z1U.F [(gd l4 0), ((gd a1.l (gd l4 1).i.toNat).fld 1)]).bind fun r6 =>
 ou 0 [r6]
 else
 if (((gd a1.l (gd l4 1).i.toNat).fld 0).i == 1) then
 (z1U.F [(gd l4 0), ((gd a1.l (gd l4 1).i.toNat).fld 1)]).bind fun r6 =>
 (z3e.F [r6, ((gd a1.l (gd l4 1).i.toNat).fld 1)]).bind fun r7 =>
 ou 0 [r7]
 else
 ou 0 [(gd l4 0)]
 else none).bind fun o6 =>
 sel2 o6.1 (ou 0 [(gd o6.2 0), (.int (IntKind.wrap .i64 ((gd l4 1).i + 1)))]) fun _ => none
 else
 ou 1 [(gd l4 0)]) [(D.lst (([] : List D) ++ (a0.fld 2).l)), (.int 0)]).bind fun o4 =>
 sel2 o4.1 ((if (decide (((gd o4.2 0).l.length : Int) > 40)) then
 ou 0 [(.bool true)]
 else
 ou 0 [(.bool ((a0.fld 1).i == 1152921504606846976))]).bind fun o5 =>
 sel2 o5.1 (if (gd o5.2 0).b then
 (z2O.F [a0]).bind fun r6 =>
 ou 0 [(.pair r6 (.pair (.int 4) .unit))]
 else
 (z3l.F [(a0.fld 0), (gd o4.2 0)]).bind fun r6 =>
 if (r6.i != 0) then
 (z2O.F [a0]).bind fun r7 =>
 ou 0 [(.pair r7 (.pair (.int 3) .unit))]
 else
 (z0a (fun l7 =>
 if (decide ((gd l7 1).i < ((gd o4.2 0).l.length : Int))) then
 if (inb (gd l7 1).i (gd o4.2 0).l.length) then
 (if (((gd (gd o4.2 0).l (gd l7 1).i.toNat).fld 1).i == 6) then
 (z3f.F [(gd l7 0)]).bind fun r9 =>
 ou 0 [((gd (gd o4.2 0).l (gd l7 1).i.toNat).setFld 3 r9)]
 else
 ou 0 [(gd (gd o4.2 0).l (gd l7 1).i.toNat)]).bind fun o9 =>
 sel2 o9.1 (if (appOk 48 ((gd l7 0).fld 2).l ((gd o9.2 0) :: ([] : List D))) then
 ou 0 [((gd l7 0).setFld 2 (D.lst (((gd l7 0).fld 2).l ++ ((gd o9.2 0) :: ([] : List D))))), (.int (IntKind.wrap .i64 ((gd l7 1).i + 1)))]
 else none) fun _ => none
 else none
 else
 ou 1 [(gd l7 0)]) [(.pair (a0.fld 0) (.pair (.int (IntKind.wrap .i64 ((a0.fld 1).i + 1))) (.pair (D.lst []) .unit))), (.int 0)]).bind fun o7 =>
 sel2 o7.1 (ou 0 [(.pair (gd o7.2 0) (.pair (.int 0) .unit))]) fun _ => none) fun _ => none) fun _ => none
 else none) fun _ => none) := by kernel_rfl
theorem zG1 (a0 a1 : D) : z49.F [a0, a1] = rn (
 (z5J.F [(a1.fld 0), (a1.fld 1)]).bind fun r2 =>
 if (!r2.b) then
 ou 0 [(.pair (.pair (.pair (.str []) (.pair (.int 0) (.pair (D.lst []) .unit))) (.pair (D.lst []) (.pair (.int 0) .unit))) (.pair (.pair (.int 0) (.pair (.int 0) (.pair (.int 0) (.pair (.int 0) .unit)))) (.pair (.bool false) .unit)))]
 else
 (z0a (fun l3 =>
 (if (decide ((gd l3 0).i < ((a0.fld 1).l.length : Int))) then
 if (inb (gd l3 0).i (a0.fld 1).l.length) then
 ou 0 [(.bool (decide (((gd (a0.fld 1).l (gd l3 0).i.toNat).fld 0).i < (a1.fld 0).i)))]
 else none
 else
 ou 0 [(.bool false)]).bind fun o4 =>
 sel2 o4.1 (if (gd o4.2 0).b then
 ou 0 [(.int (IntKind.wrap .i64 ((gd l3 0).i + 1)))]
 else
 ou 1 [(gd l3 0)]) fun _ => none) [(.int 0)]).bind fun o3 =>
 sel2 o3.1 ((if (decide ((gd o3.2 0).i < ((a0.fld 1).l.length : Int))) then
 if (inb (gd o3.2 0).i (a0.fld 1).l.length) then
 ou 0 [(.bool (((gd (a0.fld 1).l (gd o3.2 0).i.toNat).fld 0).i == (a1.fld 0).i))]
 else none
 else
 ou 0 [(.bool false)]).bind fun o4 =>
 sel2 o4.1 ((if (gd o4.2 0).b then
 if (inb (gd o3.2 0).i (a0.fld 1).l.length) then
 ou 0 [(.bool (((gd (a0.fld 1).l (gd o3.2 0).i.toNat).fld 1).i == (a1.fld 1).i))]
 else none
 else
 ou 0 [(.bool false)]).bind fun o5 =>
 sel2 o5.1 (if (gd o5.2 0).b then
 if (inb (gd o3.2 0).i (a0.fld 1).l.length) then
 ou 0 [(.pair a0 (.pair (gd (a0.fld 1).l (gd o3.2 0).i.toNat) (.pair (.bool true) .unit)))]
 else none
 else
 (if (gd o4.2 0).b then
 if (inb (gd o3.2 0).i (a0.fld 1).l.length) then
 if (decide (((gd (a0.fld 1).l (gd o3.2 0).i.toNat).fld 1).i > (a1.fld 1).i)) then
 ou 0 [(.bool true)]
 else
 if (!(gd o4.2 0).b) then
 if (((a0.fld 1).l.length : Int) == 8) then
 ou 0 [(.bool true)]
 else
 ou 0 [(.bool ((a0.fld 2).i == 1000000))]
 else
 ou 0 [(.bool ((a0.fld 2).i == 1000000))]
 else none
 else
 if (!(gd o4.2 0).b) then
 if (((a0.fld 1).l.length : Int) == 8) then
 ou 0 [(.bool true)]
 else
 ou 0 [(.bool ((a0.fld 2).i == 1000000))]
 else
 ou 0 [(.bool ((a0.fld 2).i == 1000000))]).bind fun o6 =>
 sel2 o6.1 (if (gd o6.2 0).b then
 ou 0 [(.pair (.pair (.pair (.str []) (.pair (.int 0) (.pair (D.lst []) .unit))) (.pair (D.lst []) (.pair (.int 0) .unit))) (.pair (.pair (.int 0) (.pair (.int 0) (.pair (.int 0) (.pair (.int 0) .unit)))) (.pair (.bool false) .unit)))]
 else
 (z2m.F [(a0.fld 0), (a1.fld 2)]).bind fun r7 =>
 if (4294967296 != 0) then
 if (slOk 0 (gd o3.2 0).i ((a0.fld 1).l.length : Int)) then
 if (appOk 32 ([] : List D) (((a0.fld 1).l.drop 0).take (((gd o3.2 0).i.toNat - 0 : Nat) : Int).toNat)) then
 if (appOk 32 (([] : List D) ++ (((a0.fld 1).l.drop 0).take (((gd o3.2 0).i.toNat - 0 : Nat) : Int).toNat)) ((.pair (a1.fld 0) (.pair (a1.fld 1) (.pair (r7.fld 1) (.pair (.int (((r7.fld 0).fld 1).i.tmod 4294967296)) .unit)))) :: ([] : List D))) then
 (if (gd o4.2 0).b then
 ou 0 [(.int (IntKind.wrap .i64 ((gd o3.2 0).i + 1)))]
 else
 ou 0 [(gd o3.2 0)]).bind fun o8 =>
 sel2 o8.1 (if (slOk (gd o8.2 0).i ((a0.fld 1).l.length : Int) ((a0.fld 1).l.length : Int)) then
 if (appOk 32 ((([] : List D) ++ (((a0.fld 1).l.drop 0).take (((gd o3.2 0).i.toNat - 0 : Nat) : Int).toNat)) ++ ((.pair (a1.fld 0) (.pair (a1.fld 1) (.pair (r7.fld 1) (.pair (.int (((r7.fld 0).fld 1).i.tmod 4294967296)) .unit)))) :: ([] : List D))) (((a0.fld 1).l.drop (gd o8.2 0).i.toNat).take ((((a0.fld 1).l.length : Int).toNat - (gd o8.2 0).i.toNat : Nat) : Int).toNat)) then
 ou 0 [(.pair (.pair (r7.fld 0) (.pair (D.lst (((([] : List D) ++ (((a0.fld 1).l.drop 0).take (((gd o3.2 0).i.toNat - 0 : Nat) : Int).toNat)) ++ ((.pair (a1.fld 0) (.pair (a1.fld 1) (.pair (r7.fld 1) (.pair (.int (((r7.fld 0).fld 1).i.tmod 4294967296)) .unit)))) :: ([] : List D))) ++ (((a0.fld 1).l.drop (gd o8.2 0).i.toNat).take ((((a0.fld 1).l.length : Int).toNat - (gd o8.2 0).i.toNat : Nat) : Int).toNat))) (.pair (.int (IntKind.wrap .i64 ((a0.fld 2).i + 1))) .unit))) (.pair (.pair (a1.fld 0) (.pair (a1.fld 1) (.pair (r7.fld 1) (.pair (.int (((r7.fld 0).fld 1).i.tmod 4294967296)) .unit)))) (.pair (.bool true) .unit)))]
 else none
 else none) fun _ => none
 else none
 else none
 else none
 else none) fun _ => none) fun _ => none) fun _ => none) fun _ => none) := by kernel_rfl
theorem zHg (a0 a1 a2 : D) : z0t.F [a0, a1, a2] = rn (
 (if (decide (a0.i ≥ a1.i)) then
 ou 0 [(.bool (decide (a0.i ≤ a2.i)))]
 else
 ou 0 [(.bool false)]).bind fun o3 =>
 sel2 o3.1 (ou 0 [(gd o3.2 0)]) fun _ => none) := by kernel_rfl
theorem zCU (a0 : D) : z3t.F [a0] = rn (
 (z0t.F [a0, (.int 0), (.int 1152921504606846976)]).bind fun r1 =>
 ou 0 [r1]) := by kernel_rfl
theorem zEX (a0 : D) : z1Q.F [a0] = rn (
 if (a0.s == ([] : List UInt8)) then
 ou 0 [(D.lst [])]
 else
 (z2P.F [a0, (D.str [46])]).bind fun r1 =>
 ou 0 [r1]) := by kernel_rfl
theorem zFt (a0 : D) : z4h.F [a0] = rn (
 if (a0.s == ([42] : List UInt8)) then
 ou 0 [(.bool true)]
 else
 ((z0t.F [(.int (a0.s.length : Int)), (.int 1), (.int 20)]).bind fun r1 =>
 if r1.b then
 (z4B.F [a0, (D.str [97, 98, 99, 100, 101, 102, 103, 104, 105, 106, 107, 108, 109, 110, 111, 112, 113, 114, 115, 116, 117, 118, 119, 120, 121, 122, 48, 49, 50, 51, 52, 53, 54, 55, 56, 57, 45, 95])]).bind fun r2 =>
 ou 0 [(.bool (r2.s == ([] : List UInt8)))]
 else
 ou 0 [(.bool false)]).bind fun o1 =>
 sel2 o1.1 (ou 0 [(gd o1.2 0)]) fun _ => none) := by kernel_rfl
theorem zBA (a0 : D) : z2l.F [a0] = rn (
 (z4h.F [a0]).bind fun r1 =>
 ou 0 [(.bool (!r1.b))]) := by kernel_rfl
theorem z32 (a0 a1 : D) : z0X.F [a0, a1] = rn (
 (z0a (fun l2 =>
 if (decide ((gd l2 0).i < (a0.l.length : Int))) then
 if (inb (gd l2 0).i a0.l.length) then
 (z2l.F [(gd a0.l (gd l2 0).i.toNat)]).bind fun r3 =>
 if r3.b then
 ou 1 [(gd l2 0)]
 else
 ou 0 [(.int (IntKind.wrap .i64 ((gd l2 0).i + 1)))]
 else none
 else
 ou 2 []) [(.int 0)]).bind fun o2 =>
 sel2 o2.1 (ou 0 [(gd o2.2 0)]) fun n2 =>
 sel2 n2 (ou 0 [(.int (-1))]) fun _ => none) := by kernel_rfl
theorem z2p (a0 a1 : D) : z0V.F [a0, a1] = rn (
 (z0X.F [a0, a1]).bind fun r2 =>
 ou 0 [(.bool (decide (r2.i ≥ 0)))]) := by kernel_rfl
theorem zEQ (a0 : D) : z1e.F [a0] = rn (
 if (decide ((a0.s.length : Int) > 60)) then
 ou 0 [(.bool false)]
 else
 (z1Q.F [a0]).bind fun r1 =>
 (if (decide ((r1.l.length : Int) ≤ 8)) then
 (z0V.F [r1, .unit]).bind fun r2 =>
 ou 0 [(.bool (!r2.b))]
 else
 ou 0 [(.bool false)]).bind fun o2 =>
 sel2 o2.1 (ou 0 [(gd o2.2 0)]) fun _ => none) := by kernel_rfl
theorem zHe (a0 : D) : z5E.F [a0] = rn (
 ((z1e.F [a0]).bind fun r1 =>
 if r1.b then
 (z1N.F [a0, (D.str [42])]).bind fun r2 =>
 ou 0 [(.bool (!r2.b))]
 else
 ou 0 [(.bool false)]).bind fun o1 =>
 sel2 o1.1 (ou 0 [(gd o1.2 0)]) fun _ => none) := by kernel_rfl
theorem zEY (a0 a1 : D) : z1f.F [a0, a1] = rn (
 (z4A.F [a0]).bind fun r2 =>
 (if (!(r2.fld 1).b) then
 (z0t.F [(r2.fld 0), (.int 0), a1]).bind fun r3 =>
 if r3.b then
 (z2k.F [(r2.fld 0)]).bind fun r4 =>
 ou 0 [(r2.fld 0), (.bool (r4.s == a0.s))]
 else
 ou 0 [(r2.fld 0), (.bool false)]
 else
 ou 0 [(r2.fld 0), (.bool false)]).bind fun o3 =>
 sel2 o3.1 (ou 0 [(.pair (gd o3.2 0) (.pair (gd o3.2 1) .unit))]) fun _ => none) := by kernel_rfl
theorem zBE (a0 a1 : D) : z34.F [a0, a1] = rn (
 (z0a (fun l2 =>
 if (decide ((gd l2 1).i ≥ 0)) then
 if (decide (0 ≤ (IntKind.wrap .i64 (8 * (gd l2 1).i)))) then
 if (appOk 1 (gd l2 0).l ((.int (IntKind.wrap .u8 (a0.i.fdiv (2 ^ min (IntKind.wrap .i64 (8 * (gd l2 1).i)).toNat (IntKind.bits .i64))))) :: ([] : List D))) then
 ou 0 [(D.lst ((gd l2 0).l ++ ((.int (IntKind.wrap .u8 (a0.i.fdiv (2 ^ min (IntKind.wrap .i64 (8 * (gd l2 1).i)).toNat (IntKind.bits .i64))))) :: ([] : List D)))), (.int (IntKind.wrap .i64 ((gd l2 1).i - 1)))]
 else none
 else none
 else
 ou 1 [(gd l2 0)]) [(D.lst []), (.int (IntKind.wrap .i64 (a1.i - 1)))]).bind fun o2 =>
 sel2 o2.1 (ou 0 [(.str (z0e (gd o2.2 0).l))]) fun _ => none) := by kernel_rfl
theorem zEW (a0 : D) : z3R.F [a0] = rn (
 (if (!(a0.s == ([] : List UInt8))) then
 (z1e.F [a0]).bind fun r1 =>
 if r1.b then
 (z1N.F [a0, (D.str [42])]).bind fun r2 =>
 ou 0 [(.bool (!r2.b))]
 else
 ou 0 [(.bool false)]
 else
 ou 0 [(.bool false)]).bind fun o1 =>
 sel2 o1.1 (ou 0 [(gd o1.2 0)]) fun _ => none) := by kernel_rfl
theorem z72 (a0 : D) : z28.F [a0] = rn (
 (z1Q.F [a0]).bind fun r1 =>
 (z0a (fun l2 =>
 if (decide ((gd l2 1).i < (r1.l.length : Int))) then
 if (inb (gd l2 1).i r1.l.length) then
 if (catOk (z0e ((.int (IntKind.wrap .u8 ((gd r1.l (gd l2 1).i.toNat).s.length : Int))) :: ([] : List D))) (gd r1.l (gd l2 1).i.toNat).s) then
 if (catOk (gd l2 0).s ((z0e ((.int (IntKind.wrap .u8 ((gd r1.l (gd l2 1).i.toNat).s.length : Int))) :: ([] : List D))) ++ (gd r1.l (gd l2 1).i.toNat).s)) then
 ou 0 [(.str ((gd l2 0).s ++ ((z0e ((.int (IntKind.wrap .u8 ((gd r1.l (gd l2 1).i.toNat).s.length : Int))) :: ([] : List D))) ++ (gd r1.l (gd l2 1).i.toNat).s))), (.int (IntKind.wrap .i64 ((gd l2 1).i + 1)))]
 else none
 else none
 else none
 else
 ou 1 [(gd l2 0)]) [(D.str []), (.int 0)]).bind fun o2 =>
 sel2 o2.1 (ou 0 [(gd o2.2 0)]) fun _ => none) := by kernel_rfl
theorem zAC (a0 : D) : z2a.F [a0] = rn (
 (if (decide (a0.i < 32)) then
 ou 0 [(.bool true)]
 else
 ou 0 [(.bool (decide (a0.i > 126)))]).bind fun o1 =>
 sel2 o1.1 (ou 0 [(gd o1.2 0)]) fun _ => none) := by kernel_rfl
theorem z3H (a0 a1 : D) : z0Z.F [a0, a1] = rn (
 (z0a (fun l2 =>
 if (decide ((gd l2 0).i < (a0.l.length : Int))) then
 if (inb (gd l2 0).i a0.l.length) then
 (z2a.F [(gd a0.l (gd l2 0).i.toNat)]).bind fun r3 =>
 if r3.b then
 ou 1 [(gd l2 0)]
 else
 ou 0 [(.int (IntKind.wrap .i64 ((gd l2 0).i + 1)))]
 else none
 else
 ou 2 []) [(.int 0)]).bind fun o2 =>
 sel2 o2.1 (ou 0 [(gd o2.2 0)]) fun n2 =>
 sel2 n2 (ou 0 [(.int (-1))]) fun _ => none) := by kernel_rfl
theorem z30 (a0 a1 : D) : z0W.F [a0, a1] = rn (
 (z0Z.F [a0, a1]).bind fun r2 =>
 ou 0 [(.bool (decide (r2.i ≥ 0)))]) := by kernel_rfl
theorem z4t (a0 a1 : D) : z0y.F [a0, a1] = rn (
 if (a0.i == 1) then
 (z2P.F [a1, (D.str [46])]).bind fun r2 =>
 (z0a (fun l3 =>
 if (decide ((gd l3 1).i < (r2.l.length : Int))) then
 if (inb (gd l3 1).i r2.l.length) then
 (z1f.F [(gd r2.l (gd l3 1).i.toNat), (.int 255)]).bind fun r5 =>
 (if (!(r5.fld 1).b) then
 ou 0 [(.bool true)]
 else
 ou 0 [(.bool ((r2.l.length : Int) != 4))]).bind fun o6 =>
 sel2 o6.1 (if (gd o6.2 0).b then
 ou 1 []
 else
 (z34.F [(r5.fld 0), (.int 1)]).bind fun r7 =>
 if (catOk (gd l3 0).s r7.s) then
 ou 0 [(.str ((gd l3 0).s ++ r7.s)), (.int (IntKind.wrap .i64 ((gd l3 1).i + 1)))]
 else none) fun _ => none
 else none
 else
 ou 2 [(gd l3 0)]) [(D.str []), (.int 0)]).bind fun o3 =>
 sel2 o3.1 (ou 0 [(.pair (D.str []) (.pair (.bool false) .unit))]) fun n4 =>
 sel2 n4 (ou 0 [(.pair (gd o3.2 0) (.pair (.bool true) .unit))]) fun _ => none
 else
 (if (a0.i == 2) then
 ou 0 [(.bool (a0.i == 2))]
 else
 ou 0 [(.bool (a0.i == 5))]).bind fun o2 =>
 sel2 o2.1 (if (gd o2.2 0).b then
 (z3R.F [a1]).bind fun r3 =>
 if (!r3.b) then
 ou 0 [(.pair (D.str []) (.pair (.bool false) .unit))]
 else
 (z28.F [a1]).bind fun r4 =>
 if (catOk r4.s ([0] : List UInt8)) then
 ou 0 [(.pair (.str (r4.s ++ ([0] : List UInt8))) (.pair (.bool true) .unit))]
 else none
 else
 if (a0.i == 6) then
 (z1f.F [a1, (.int 4294967295)]).bind fun r3 =>
 if (!(r3.fld 1).b) then
 ou 0 [(.pair (D.str []) (.pair (.bool false) .unit))]
 else
 (z34.F [(r3.fld 0), (.int 4)]).bind fun r4 =>
 ou 0 [(.pair r4 (.pair (.bool true) .unit))]
 else
 if (a0.i == 15) then
 (z4W.F [a1, (D.str [32])]).bind fun r3 =>
 (z1f.F [(r3.fld 0), (.int 65535)]).bind fun r4 =>
 (if (!(r4.fld 1).b) then
 ou 0 [(.bool true)]
 else
 (z3R.F [(r3.fld 1)]).bind fun r5 =>
 ou 0 [(.bool (!r5.b))]).bind fun o5 =>
 sel2 o5.1 (if (gd o5.2 0).b then
 ou 0 [(.pair (D.str []) (.pair (.bool false) .unit))]
 else
 (z34.F [(r4.fld 0), (.int 2)]).bind fun r6 =>
 (z28.F [(r3.fld 1)]).bind fun r7 =>
 if (catOk r6.s r7.s) then
 if (catOk (r6.s ++ r7.s) ([0] : List UInt8)) then
 ou 0 [(.pair (.str ((r6.s ++ r7.s) ++ ([0] : List UInt8))) (.pair (.bool true) .unit))]
 else none
 else none) fun _ => none
 else
 if (a0.i == 16) then
 (if (decide ((a1.s.length : Int) > 30)) then
 ou 0 [(.bool true)]
 else
 (z0W.F [(D.lst (a1.s.map fun c => D.int c.toNat)), .unit]).bind fun r3 =>
 ou 0 [r3]).bind fun o3 =>
 sel2 o3.1 (if (gd o3.2 0).b then
 ou 0 [(.pair (D.str []) (.pair (.bool false) .unit))]
 else
 (z34.F [(.int (a1.s.length : Int)), (.int 1)]).bind fun r4 =>
 if (catOk r4.s a1.s) then
 ou 0 [(.pair (.str (r4.s ++ a1.s)) (.pair (.bool true) .unit))]
 else none) fun _ => none
 else
 ou 0 [(.pair (D.str []) (.pair (.bool false) .unit))]) fun _ => none) := by kernel_rfl
theorem zBB (a0 : D) : z26.F [a0] = rn (
 ((z1e.F [(a0.fld 0)]).bind fun r1 =>
 if (!r1.b) then
 ou 0 [(.bool true)]
 else
 (z0t.F [(a0.fld 2), (.int 0), (.int 100000)]).bind fun r2 =>
 if (!r2.b) then
 ou 0 [(.bool true)]
 else
 ou 0 [(.bool (decide (((a0.fld 3).s.length : Int) > 100)))]).bind fun o1 =>
 sel2 o1.1 (if (gd o1.2 0).b then
 ou 0 [(.bool false)]
 else
 (z0y.F [(a0.fld 1), (a0.fld 3)]).bind fun r2 =>
 ou 0 [(r2.fld 1)]) fun _ => none) := by kernel_rfl
theorem z5s (a0 : D) : z0o.F [a0] = rn (
 (z0a (fun l1 =>
 if (decide ((gd l1 1).i < (gd l1 2).i)) then
 if (inb (gd l1 2).i (gd l1 0).l.length) then
 if (inb (gd l1 1).i (gd l1 0).l.length) then
 ou 0 [(D.lst (((gd l1 0).l.set (gd l1 1).i.toNat (gd (gd l1 0).l (gd l1 2).i.toNat)).set (gd l1 2).i.toNat (gd (gd l1 0).l (gd l1 1).i.toNat))), (.int (IntKind.wrap .i64 ((gd l1 1).i + 1))), (.int (IntKind.wrap .i64 ((gd l1 2).i - 1)))]
 else none
 else none
 else
 ou 1 [(gd l1 0)]) [a0, (.int 0), (.int (IntKind.wrap .i64 ((a0.l.length : Int) - 1)))]).bind fun o1 =>
 sel2 o1.1 (ou 0 [(.pair .unit (.pair (gd o1.2 0) .unit))]) fun _ => none) := by kernel_rfl
theorem zAB (a0 : D) : z2Z.F [a0] = rn (
 ou 0 [(.bool (!(a0.s == a0.s)))]) := by kernel_rfl
theorem z8j (a0 a1 : D) : z1L.F [a0, a1] = rn (
 (z2Z.F [a0]).bind fun r2 =>
 (z2Z.F [a1]).bind fun r3 =>
 if r2.b then
 if r3.b then
 ou 0 [(.int 0)]
 else
 ou 0 [(.int (-1))]
 else
 if r3.b then
 ou 0 [(.int 1)]
 else
 if (Op.bytesLess a0.s a1.s) then
 ou 0 [(.int (-1))]
 else
 if (!(Op.bytesLess a0.s a1.s || a0.s == a1.s)) then
 ou 0 [(.int 1)]
 else
 ou 0 [(.int 0)]) := by kernel_rfl
theorem z5r (a0 a1 : D) : z10.F [a0, a1] = rn (
 (z0a (fun l2 =>
 if (decide ((gd l2 0).i < (a0.l.length : Int))) then
 if (inb (gd l2 0).i a0.l.length) then
 if (decide ((gd l2 0).i ≥ (a1.l.length : Int))) then
 ou 1 [(.int 1)]
 else
 if (inb (gd l2 0).i a1.l.length) then
 (z1L.F [(gd a0.l (gd l2 0).i.toNat), (gd a1.l (gd l2 0).i.toNat)]).bind fun r3 =>
 if (r3.i != 0) then
 ou 1 [r3]
 else
 ou 0 [(.int (IntKind.wrap .i64 ((gd l2 0).i + 1)))]
 else none
 else none
 else
 ou 2 []) [(.int 0)]).bind fun o2 =>
 sel2 o2.1 (ou 0 [(gd o2.2 0)]) fun n2 =>
 sel2 n2 (if (decide ((a0.l.length : Int) < (a1.l.length : Int))) then
 ou 0 [(.int (-1))]
 else
 ou 0 [(.int 0)]) fun _ => none) := by kernel_rfl
theorem z9P (a0 a1 : D) : z2r.F [a0, a1] = rn (
 (z1Q.F [a0]).bind fun r2 =>
 (z1Q.F [a1]).bind fun r3 =>
 (z0o.F [r2]).bind fun r4 =>
 (z0o.F [r3]).bind fun r5 =>
 (z10.F [(r4.fld 1), (r5.fld 1)]).bind fun r6 =>
 ou 0 [r6]) := by kernel_rfl
theorem zEP (a0 : D) : z3K.F [a0] = rn (
 ou 0 [(.bool (a0.i != a0.i))]) := by kernel_rfl
theorem zB9 (a0 a1 : D) : z1K.F [a0, a1] = rn (
 (z3K.F [a0]).bind fun r2 =>
 (z3K.F [a1]).bind fun r3 =>
 if r2.b then
 if r3.b then
 ou 0 [(.int 0)]
 else
 ou 0 [(.int (-1))]
 else
 if r3.b then
 ou 0 [(.int 1)]
 else
 if (decide (a0.i < a1.i)) then
 ou 0 [(.int (-1))]
 else
 if (decide (a0.i > a1.i)) then
 ou 0 [(.int 1)]
 else
 ou 0 [(.int 0)]) := by kernel_rfl
theorem zJL (a0 : D) : z4H.F [a0] = rn (
 (z0a (fun l1 =>
 if (decide ((gd l1 0).i < (a0.l.length : Int))) then
 if (inb (gd l1 0).i a0.l.length) then
 if ((gd a0.l (gd l1 0).i.toNat).i != 0) then
 ou 1 [(gd a0.l (gd l1 0).i.toNat)]
 else
 ou 0 [(.int (IntKind.wrap .i64 ((gd l1 0).i + 1)))]
 else none
 else
 ou 2 []) [(.int 0)]).bind fun o1 =>
 sel2 o1.1 (ou 0 [(gd o1.2 0)]) fun n2 =>
 sel2 n2 (ou 0 [(.int 0)]) fun _ => none) := by kernel_rfl
theorem zAD (a0 a1 : D) : z36.F [a0, a1] = rn (
 (z2r.F [(a0.fld 0), (a1.fld 0)]).bind fun r2 =>
 (z1K.F [(a0.fld 1), (a1.fld 1)]).bind fun r3 =>
 (z4H.F [(D.lst (r2 :: (r3 :: ([] : List D))))]).bind fun r4 =>
 ou 0 [r4]) := by kernel_rfl
theorem zCT (a0 a1 : D) : z35.F [a0, a1] = rn (
 (z0y.F [a0, a1]).bind fun r2 =>
 if (!(r2.fld 1).b) then
 ou 0 [(D.str [])]
 else
 ou 0 [(r2.fld 0)]) := by kernel_rfl
theorem z8B (a0 a1 : D) : z0s.F [a0, a1] = rn (
 (z36.F [a0, a1]).bind fun r2 =>
 (z35.F [(a0.fld 1), (a0.fld 3)]).bind fun r3 =>
 (z35.F [(a1.fld 1), (a1.fld 3)]).bind fun r4 =>
 (z2n.F [r3, r4]).bind fun r5 =>
 (z1K.F [(a0.fld 2), (a1.fld 2)]).bind fun r6 =>
 (z4H.F [(D.lst (r2 :: (r5 :: (r6 :: ([] : List D)))))]).bind fun r7 =>
 ou 0 [r7]) := by kernel_rfl
theorem zCR (a0 : D) : z3s.F [a0] = rn (
 (z0a (fun l1 =>
 if (decide ((gd l1 0).i < (a0.l.length : Int))) then
 if (inb (gd l1 0).i a0.l.length) then
 ((z26.F [(gd a0.l (gd l1 0).i.toNat)]).bind fun r2 =>
 if (!r2.b) then
 ou 0 [(.bool true)]
 else
 if (decide ((gd l1 0).i > 0)) then
 if (inb (IntKind.wrap .i64 ((gd l1 0).i - 1)) a0.l.length) then
 (z0s.F [(gd a0.l (IntKind.wrap .i64 ((gd l1 0).i - 1)).toNat), (gd a0.l (gd l1 0).i.toNat)]).bind fun r3 =>
 ou 0 [(.bool (decide (r3.i ≥ 0)))]
 else none
 else
 ou 0 [(.bool false)]).bind fun o2 =>
 sel2 o2.1 (if (gd o2.2 0).b then
 ou 1 []
 else
 ou 0 [(.int (IntKind.wrap .i64 ((gd l1 0).i + 1)))]) fun _ => none
 else none
 else
 ou 2 []) [(.int 0)]).bind fun o1 =>
 sel2 o1.1 (ou 0 [(.bool false)]) fun n2 =>
 sel2 n2 (ou 0 [(.bool true)]) fun _ => none) := by kernel_rfl
theorem zFu (a0 a1 : D) : z4i.F [a0, a1] = rn (
 ((z5E.F [a0]).bind fun r2 =>
 if r2.b then
 if (decide ((a1.l.length : Int) ≤ 40)) then
 (z3s.F [a1]).bind fun r3 =>
 ou 0 [r3]
 else
 ou 0 [(.bool false)]
 else
 ou 0 [(.bool false)]).bind fun o2 =>
 sel2 o2.1 (ou 0 [(gd o2.2 0)]) fun _ => none) := by kernel_rfl
theorem z5U (a0 a1 : D) : z0v.F [a0, a1] = rn (
 (if (decide ((a0.s.length : Int) ≥ (a1.s.length : Int))) then
 if (slOk (IntKind.wrap .i64 ((a0.s.length : Int) - (a1.s.length : Int))) (a0.s.length : Int) (a0.s.length : Int)) then
 ou 0 [(.bool (((a0.s.take (a0.s.length : Int).toNat).drop (IntKind.wrap .i64 ((a0.s.length : Int) - (a1.s.length : Int))).toNat) == a1.s))]
 else none
 else
 ou 0 [(.bool false)]).bind fun o2 =>
 sel2 o2.1 (ou 0 [(gd o2.2 0)]) fun _ => none) := by kernel_rfl
theorem z9Q (a0 a1 : D) : z2t.F [a0, a1] = rn (
 (z0v.F [a0, a1]).bind fun r2 =>
 ou 0 [r2]) := by kernel_rfl
theorem zFs (a0 a1 : D) : z3B.F [a0, a1] = rn (
 (if (a0.s == a1.s) then
 ou 0 [(.bool true)]
 else
 if (a1.s == ([] : List UInt8)) then
 ou 0 [(.bool true)]
 else
 if (catOk ([46] : List UInt8) a1.s) then
 (z2t.F [a0, (.str (([46] : List UInt8) ++ a1.s))]).bind fun r2 =>
 ou 0 [r2]
 else none).bind fun o2 =>
 sel2 o2.1 (ou 0 [(gd o2.2 0)]) fun _ => none) := by kernel_rfl
theorem zOC (a0 a1 a2 : D) : z3O.F [a0, a1, a2] = rn (
 (z0a (fun l3 =>
 if (decide ((gd l3 1).i < (a0.l.length : Int))) then
 (if (inb (gd l3 1).i a0.l.length) then
 (if (((gd a0.l (gd l3 1).i.toNat).fld 0).s == a1.s) then
 if (a2.i == 0) then
 ou 0 [(.bool true)]
 else
 ou 0 [(.bool (((gd a0.l (gd l3 1).i.toNat).fld 1).i == a2.i))]
 else
 ou 0 [(.bool false)]).bind fun o5 =>
 sel2 o5.1 (if (gd o5.2 0).b then
 if (appOk 48 (gd l3 0).l ((gd a0.l (gd l3 1).i.toNat) :: ([] : List D))) then
 ou 0 [(D.lst ((gd l3 0).l ++ ((gd a0.l (gd l3 1).i.toNat) :: ([] : List D))))]
 else none
 else
 ou 0 [(gd l3 0)]) fun _ => none
 else none).bind fun o5 =>
 sel2 o5.1 (ou 0 [(gd o5.2 0), (.int (IntKind.wrap .i64 ((gd l3 1).i + 1)))]) fun _ => none
 else
 ou 1 [(gd l3 0)]) [(D.lst []), (.int 0)]).bind fun o3 =>
 sel2 o3.1 (ou 0 [(gd o3.2 0)]) fun _ => none) := by kernel_rfl
theorem zET (a0 a1 : D) : z3P.F [a0, a1] = rn (
 (if ((a0.fld 2).i != (a1.fld 2).i) then
 ou 0 [(.bool true)]
 else
 if ((a0.fld 3).s == (a1.fld 3).s) then
 ou 0 [(.bool (!(D.beq a0 a1)))]
 else
 ou 0 [(.bool false)]).bind fun o2 =>
 sel2 o2.1 (ou 0 [(gd o2.2 0)]) fun _ => none) := by kernel_rfl
theorem z2V (a0 a1 : D) : z0R.F [a0, a1] = rn (
 (z0a (fun l2 =>
 if (decide ((gd l2 0).i < (a0.l.length : Int))) then
 if (inb (gd l2 0).i a0.l.length) then
 (z3P.F [(gd a0.l (gd l2 0).i.toNat), (a1.fld 0)]).bind fun r3 =>
 if r3.b then
 ou 1 [(gd l2 0)]
 else
 ou 0 [(.int (IntKind.wrap .i64 ((gd l2 0).i + 1)))]
 else none
 else
 ou 2 []) [(.int 0)]).bind fun o2 =>
 sel2 o2.1 (ou 0 [(gd o2.2 0)]) fun n2 =>
 sel2 n2 (ou 0 [(.int (-1))]) fun _ => none) := by kernel_rfl
theorem z1z (a0 a1 : D) : z0L.F [a0, a1] = rn (
 (z0R.F [a0, a1]).bind fun r2 =>
 ou 0 [(.bool (decide (r2.i ≥ 0)))]) := by kernel_rfl
theorem zEU (a0 a1 a2 : D) : z3Q.F [a0, a1, a2] = rn (
 (if ((a0.fld 1).i == 2) then
 if (!((a0.fld 0).s == a1.s)) then
 (z3B.F [(a2.fld 0), (a0.fld 0)]).bind fun r3 =>
 ou 0 [r3]
 else
 ou 0 [(.bool false)]
 else
 ou 0 [(.bool false)]).bind fun o3 =>
 sel2 o3.1 ((if (gd o3.2 0).b then
 if ((a2.fld 1).i != 1) then
 if ((a2.fld 1).i == 2) then
 ou 0 [(.bool (!((a2.fld 0).s == (a0.fld 0).s)))]
 else
 ou 0 [(.bool (!false))]
 else
 ou 0 [(.bool false)]
 else
 ou 0 [(.bool false)]).bind fun o4 =>
 sel2 o4.1 (ou 0 [(gd o4.2 0)]) fun _ => none) fun _ => none) := by kernel_rfl
theorem z2W (a0 a1 : D) : z0S.F [a0, a1] = rn (
 (z0a (fun l2 =>
 if (decide ((gd l2 0).i < (a0.l.length : Int))) then
 if (inb (gd l2 0).i a0.l.length) then
 (z3Q.F [(gd a0.l (gd l2 0).i.toNat), (a1.fld 0), (a1.fld 1)]).bind fun r3 =>
 if r3.b then
 ou 1 [(gd l2 0)]
 else
 ou 0 [(.int (IntKind.wrap .i64 ((gd l2 0).i + 1)))]
 else none
 else
 ou 2 []) [(.int 0)]).bind fun o2 =>
 sel2 o2.1 (ou 0 [(gd o2.2 0)]) fun n2 =>
 sel2 n2 (ou 0 [(.int (-1))]) fun _ => none) := by kernel_rfl
theorem z22 (a0 a1 : D) : z0M.F [a0, a1] = rn (
 (z0S.F [a0, a1]).bind fun r2 =>
 ou 0 [(.bool (decide (r2.i ≥ 0)))]) := by kernel_rfl
theorem zHd (a0 a1 a2 a3 : D) : z5D.F [a0, a1, a2, a3] = rn (
 if (a3.i == 1) then
 (z3B.F [(a2.fld 0), a0]).bind fun r4 =>
 ou 0 [(.bool (!r4.b))]
 else
 if (a3.i == 2) then
 (if ((a2.fld 1).i == 6) then
 ou 0 [(.bool (!((a2.fld 0).s == a0.s)))]
 else
 ou 0 [(.bool false)]).bind fun o4 =>
 sel2 o4.1 (ou 0 [(gd o4.2 0)]) fun _ => none
 else
 if (a3.i == 3) then
 (z3O.F [a1, (a2.fld 0), (a2.fld 1)]).bind fun r4 =>
 (z0L.F [r4, (.pair a2 .unit)]).bind fun r5 =>
 ou 0 [r5]
 else
 if (a3.i == 4) then
 (if ((a2.fld 1).i == 5) then
 (z3O.F [a1, (a2.fld 0), (.int 0)]).bind fun r4 =>
 ou 0 [(.bool (decide ((r4.l.length : Int) > 1)))]
 else
 ou 0 [(.bool false)]).bind fun o4 =>
 sel2 o4.1 (ou 0 [(gd o4.2 0)]) fun _ => none
 else
 if (a3.i == 5) then
 (if ((a2.fld 1).i == 5) then
 ou 0 [(.bool ((a2.fld 0).s == a0.s))]
 else
 ou 0 [(.bool false)]).bind fun o4 =>
 sel2 o4.1 (ou 0 [(gd o4.2 0)]) fun _ => none
 else
 (z0M.F [a1, (.pair a0 (.pair a2 .unit))]).bind fun r4 =>
 ou 0 [r4]) := by kernel_rfl
theorem zES (a0 a1 a2 a3 : D) : z3M.F [a0, a1, a2, a3] = rn (
 (z5D.F [a1, a2, a0, a3]).bind fun r4 =>
 ou 0 [r4]) := by kernel_rfl
theorem z2U (a0 a1 : D) : z0Q.F [a0, a1] = rn (
 (z0a (fun l2 =>
 if (decide ((gd l2 0).i < (a0.l.length : Int))) then
 if (inb (gd l2 0).i a0.l.length) then
 (z3M.F [(gd a0.l (gd l2 0).i.toNat), (a1.fld 0), (a1.fld 1), (a1.fld 2)]).bind fun r3 =>
 if r3.b then
 ou 1 [(gd l2 0)]
 else
 ou 0 [(.int (IntKind.wrap .i64 ((gd l2 0).i + 1)))]
 else none
 else
 ou 2 []) [(.int 0)]).bind fun o2 =>
 sel2 o2.1 (ou 0 [(gd o2.2 0)]) fun n2 =>
 sel2 n2 (ou 0 [(.int (-1))]) fun _ => none) := by kernel_rfl
theorem z1y (a0 a1 : D) : z0C.F [a0, a1] = rn (
 (z0Q.F [a0, a1]).bind fun r2 =>
 ou 0 [(.bool (decide (r2.i ≥ 0)))]) := by kernel_rfl
theorem zHc (a0 a1 : D) : z3h.F [a0, a1] = rn (
 (z4i.F [a0, a1]).bind fun r2 =>
 if (!r2.b) then
 ou 0 [(.int 9)]
 else
 (z0a (fun l3 =>
 if (decide ((gd l3 0).i ≤ 6)) then
 ((z0C.F [a1, (.pair a0 (.pair a1 (.pair (gd l3 0) .unit)))]).bind fun r4 =>
 if r4.b then
 ou 0 [(.bool true)]
 else
 if ((gd l3 0).i == 2) then
 (z3O.F [a1, a0, (.int 6)]).bind fun r5 =>
 ou 0 [(.bool ((r5.l.length : Int) != 1))]
 else
 ou 0 [(.bool false)]).bind fun o4 =>
 sel2 o4.1 (if (gd o4.2 0).b then
 ou 1 [(gd l3 0)]
 else
 ou 0 [(.int (IntKind.wrap .i64 ((gd l3 0).i + 1)))]) fun _ => none
 else
 ou 2 []) [(.int 1)]).bind fun o3 =>
 sel2 o3.1 (ou 0 [(gd o3.2 0)]) fun n4 =>
 sel2 n4 (ou 0 [(.int 0)]) fun _ => none) := by kernel_rfl
theorem zBG (a0 : D) : z29.F [a0] = rn (
 if (4294967296 != 0) then
 (z2k.F [(.int (a0.i.tmod 4294967296))]).bind fun r1 =>
 ou 0 [r1]
 else none) := by kernel_rfl
theorem zER (a0 : D) : z4I.F [a0] = rn (
 ((z3t.F [(a0.fld 1)]).bind fun r1 =>
 if r1.b then
 (z3h.F [(a0.fld 0), (a0.fld 2)]).bind fun r2 =>
 if (r2.i == 0) then
 (z3O.F [(a0.fld 2), (a0.fld 0), (.int 6)]).bind fun r3 =>
 if (inb 0 r3.l.length) then
 (z29.F [(a0.fld 1)]).bind fun r4 =>
 ou 0 [(.bool (((gd r3.l 0).fld 3).s == r4.s))]
 else none
 else
 ou 0 [(.bool false)]
 else
 ou 0 [(.bool false)]).bind fun o1 =>
 sel2 o1.1 (ou 0 [(gd o1.2 0)]) fun _ => none) := by kernel_rfl
theorem zEV (a0 a1 : D) : z4J.F [a0, a1] = rn (
 ((z0t.F [a0, (.int 0), (.int 100)]).bind fun r2 =>
 if r2.b then
 (z0t.F [a1, (.int 1), (.int 1000)]).bind fun r3 =>
 ou 0 [r3]
 else
 ou 0 [(.bool false)]).bind fun o2 =>
 sel2 o2.1 (ou 0 [(gd o2.2 0)]) fun _ => none) := by kernel_rfl
theorem z4b (a0 : D) : z0H.F [a0] = rn (
 two a0.l.isEmpty
 (ou 0 [(D.lst [])])
 (if (appOk 48 ([] : List D) a0.l) then
 ou 0 [(D.lst (([] : List D) ++ a0.l))]
 else none)) := by kernel_rfl
theorem zFv (a0 : D) : z4j.F [a0] = rn (
 (z0H.F [(a0.fld 2)]).bind fun r1 =>
 ou 0 [(a0.setFld 2 r1)]) := by kernel_rfl
theorem z57 (a0 : D) : z0q.F [a0] = rn (
 two a0.l.isEmpty
 (ou 0 [(D.lst [])])
 (if (appOk 32 ([] : List D) a0.l) then
 ou 0 [(D.lst (([] : List D) ++ a0.l))]
 else none)) := by kernel_rfl
theorem zBF (a0 : D) : z3S.F [a0] = rn (
 (z4j.F [(a0.fld 0)]).bind fun r1 =>
 (z0q.F [(a0.fld 1)]).bind fun r2 =>
 ou 0 [(.pair r1 (.pair r2 (.pair (a0.fld 2) .unit)))]) := by kernel_rfl
theorem z8A (a0 a1 : D) : z1E.F [a0, a1] = rn (
 (z1K.F [(a0.fld 0), a1]).bind fun r2 =>
 ou 0 [r2]) := by kernel_rfl
theorem z1P (a0 a1 a2 : D) : z0P.F [a0, a1, a2] = rn (
 (z0a (fun l3 =>
 if (decide ((gd l3 0).i < (gd l3 1).i)) then
 if (decide (0 ≤ 1)) then
 if (inb (IntKind.wrap .i64 ((IntKind.wrap .u64 (IntKind.wrap .i64 ((gd l3 0).i + (gd l3 1).i))).fdiv (2 ^ min 1 (IntKind.bits .u64)))) a0.l.length) then
 (z1E.F [(gd a0.l (IntKind.wrap .i64 ((IntKind.wrap .u64 (IntKind.wrap .i64 ((gd l3 0).i + (gd l3 1).i))).fdiv (2 ^ min 1 (IntKind.bits .u64)))).toNat), a1]).bind fun r5 =>
 if (decide (r5.i < 0)) then
 ou 0 [(.int (IntKind.wrap .i64 ((IntKind.wrap .i64 ((IntKind.wrap .u64 (IntKind.wrap .i64 ((gd l3 0).i + (gd l3 1).i))).fdiv (2 ^ min 1 (IntKind.bits .u64)))) + 1))), (gd l3 1)]
 else
 ou 0 [(gd l3 0), (.int (IntKind.wrap .i64 ((IntKind.wrap .u64 (IntKind.wrap .i64 ((gd l3 0).i + (gd l3 1).i))).fdiv (2 ^ min 1 (IntKind.bits .u64)))))]
 else none
 else none
 else
 ou 1 [(gd l3 0)]) [(.int 0), (.int (a0.l.length : Int))]).bind fun o3 =>
 sel2 o3.1 ((if (decide ((gd o3.2 0).i < (a0.l.length : Int))) then
 if (inb (gd o3.2 0).i a0.l.length) then
 (z1E.F [(gd a0.l (gd o3.2 0).i.toNat), a1]).bind fun r4 =>
 ou 0 [(gd o3.2 0), (.bool (r4.i == 0))]
 else none
 else
 ou 0 [(gd o3.2 0), (.bool false)]).bind fun o4 =>
 sel2 o4.1 (ou 0 [(.pair (gd o4.2 0) (.pair (gd o4.2 1) .unit))]) fun _ => none) fun _ => none) := by kernel_rfl
theorem z9M (a0 a1 : D) : z2q.F [a0, a1] = rn (
 (z0P.F [(a0.fld 1), a1, .unit]).bind fun r2 =>
 ou 0 [(.pair (r2.fld 0) (.pair (r2.fld 1) .unit))]) := by kernel_rfl
theorem z9O (a0 : D) : z27.F [a0] = rn (
 ((z0t.F [(a0.fld 0), (.int 1), (.int 4)]).bind fun r1 =>
 if (!r1.b) then
 ou 0 [(.bool true)]
 else
 (z26.F [(a0.fld 1)]).bind fun r2 =>
 if (!r2.b) then
 ou 0 [(.bool true)]
 else
 ou 0 [(.bool (((a0.fld 1).fld 1).i == 6))]).bind fun o1 =>
 sel2 o1.1 (ou 0 [(gd o1.2 0)]) fun _ => none) := by kernel_rfl
theorem z1r (a0 a1 : D) : z0I.F [a0, a1] = rn (
 (z0a (fun l2 =>
 if (decide ((gd l2 0).i < (a0.l.length : Int))) then
 if (inb (gd l2 0).i a0.l.length) then
 (z27.F [(gd a0.l (gd l2 0).i.toNat)]).bind fun r3 =>
 if r3.b then
 ou 1 [(gd l2 0)]
 else
 ou 0 [(.int (IntKind.wrap .i64 ((gd l2 0).i + 1)))]
 else none
 else
 ou 2 []) [(.int 0)]).bind fun o2 =>
 sel2 o2.1 (ou 0 [(gd o2.2 0)]) fun n2 =>
 sel2 n2 (ou 0 [(.int (-1))]) fun _ => none) := by kernel_rfl
theorem z1b (a0 a1 : D) : z0F.F [a0, a1] = rn (
 (z0I.F [a0, a1]).bind fun r2 =>
 ou 0 [(.bool (decide (r2.i ≥ 0)))]) := by kernel_rfl
theorem zBD (a0 : D) : z3N.F [a0] = rn (
 (if (decide ((a0.l.length : Int) ≤ 12)) then
 (z0F.F [a0, .unit]).bind fun r1 =>
 ou 0 [(.bool (!r1.b))]
 else
 ou 0 [(.bool false)]).bind fun o1 =>
 sel2 o1.1 (ou 0 [(gd o1.2 0)]) fun _ => none) := by kernel_rfl
theorem zHf (a0 a1 : D) : z5F.F [a0, a1] = rn (
 (z3O.F [(a0.fld 2), ((a1.fld 1).fld 0), ((a1.fld 1).fld 1)]).bind fun r2 =>
 (if ((a1.fld 0).i == 3) then
 if (!(decide ((r2.l.length : Int) > 0))) then
 ou 0 [(.bool true)]
 else
 if ((a1.fld 0).i == 4) then
 ou 0 [(.bool (decide ((r2.l.length : Int) > 0)))]
 else
 ou 0 [(.bool false)]
 else
 if ((a1.fld 0).i == 4) then
 ou 0 [(.bool (decide ((r2.l.length : Int) > 0)))]
 else
 ou 0 [(.bool false)]).bind fun o3 =>
 sel2 o3.1 (ou 0 [(gd o3.2 0)]) fun _ => none) := by kernel_rfl
theorem zFp (a0 a1 : D) : z44.F [a0, a1] = rn (
 (z5F.F [a1, a0]).bind fun r2 =>
 ou 0 [r2]) := by kernel_rfl
theorem z2Y (a0 a1 : D) : z0T.F [a0, a1] = rn (
 (z0a (fun l2 =>
 if (decide ((gd l2 0).i < (a0.l.length : Int))) then
 if (inb (gd l2 0).i a0.l.length) then
 (z44.F [(gd a0.l (gd l2 0).i.toNat), (a1.fld 0)]).bind fun r3 =>
 if r3.b then
 ou 1 [(gd l2 0)]
 else
 ou 0 [(.int (IntKind.wrap .i64 ((gd l2 0).i + 1)))]
 else none
 else
 ou 2 []) [(.int 0)]).bind fun o2 =>
 sel2 o2.1 (ou 0 [(gd o2.2 0)]) fun n2 =>
 sel2 n2 (ou 0 [(.int (-1))]) fun _ => none) := by kernel_rfl
theorem z2F (a0 a1 : D) : z0O.F [a0, a1] = rn (
 (z0T.F [a0, a1]).bind fun r2 =>
 ou 0 [(.bool (decide (r2.i ≥ 0)))]) := by kernel_rfl
theorem zCS (a0 a1 : D) : z1S.F [a0, a1] = rn (
 (if ((a0.fld 0).s == (a1.fld 0).s) then
 if ((a0.fld 1).i == (a1.fld 1).i) then
 ou 0 [(.bool ((a0.fld 3).s == (a1.fld 3).s))]
 else
 ou 0 [(.bool false)]
 else
 ou 0 [(.bool false)]).bind fun o2 =>
 sel2 o2.1 (ou 0 [(gd o2.2 0)]) fun _ => none) := by kernel_rfl
theorem z2M (a0 a1 : D) : z0E.F [a0, a1] = rn (
 (z0a (fun l2 =>
 if (decide ((gd l2 0).i < (a0.l.length : Int))) then
 if (inb (gd l2 0).i a0.l.length) then
 (z1S.F [(gd a0.l (gd l2 0).i.toNat), (a1.fld 0)]).bind fun r3 =>
 if r3.b then
 ou 1 [(gd l2 0)]
 else
 ou 0 [(.int (IntKind.wrap .i64 ((gd l2 0).i + 1)))]
 else none
 else
 ou 2 []) [(.int 0)]).bind fun o2 =>
 sel2 o2.1 (ou 0 [(gd o2.2 0)]) fun n2 =>
 sel2 n2 (ou 0 [(.int (-1))]) fun _ => none) := by kernel_rfl
theorem z2G (a0 a1 : D) : z08.F [a0, a1] = rn (
 (z0E.F [a0, a1]).bind fun r2 =>
 if (r2.i == (-1)) then
 ou 0 [a0]
 else
 (z0a (fun l3 =>
 if (decide ((gd l3 2).i < ((gd l3 0).l.length : Int))) then
 (if (inb (gd l3 2).i (gd l3 0).l.length) then
 (z1S.F [(gd (gd l3 0).l (gd l3 2).i.toNat), (a1.fld 0)]).bind fun r6 =>
 if (!r6.b) then
 if (inb (gd l3 1).i (gd l3 0).l.length) then
 ou 0 [(D.lst ((gd l3 0).l.set (gd l3 1).i.toNat (gd (gd l3 0).l (gd l3 2).i.toNat))), (.int (IntKind.wrap .i64 ((gd l3 1).i + 1)))]
 else none
 else
 ou 0 [(gd l3 0), (gd l3 1)]
 else none).bind fun o6 =>
 sel2 o6.1 (ou 0 [(gd o6.2 0), (gd o6.2 1), (.int (IntKind.wrap .i64 ((gd l3 2).i + 1)))]) fun _ => none
 else
 ou 1 [(gd l3 0), (gd l3 1)]) [a0, r2, (.int (IntKind.wrap .i64 (r2.i + 1)))]).bind fun o3 =>
 sel2 o3.1 (if (slOk (gd o3.2 1).i ((gd o3.2 0).l.length : Int) ((gd o3.2 0).l.length : Int)) then
 if (winOk (gd o3.2 1).i.toNat ((((gd o3.2 0).l.length : Int).toNat - (gd o3.2 1).i.toNat : Nat) : Int).toNat (gd o3.2 0).l) then
 if (slOk 0 (gd o3.2 1).i ((((((gd o3.2 0).l.drop 0).take (gd o3.2 1).i.toNat) ++ (List.replicate ((((gd o3.2 0).l.length : Int).toNat - (gd o3.2 1).i.toNat : Nat) : Int).toNat ((.pair (.str []) (.pair (.int 0) (.pair (.int 0) (.pair (.str []) .unit)))) : D))) ++ (((((gd o3.2 0).l.drop (gd o3.2 1).i.toNat).take ((gd o3.2 0).l.length : Int).toNat).drop ((((gd o3.2 0).l.length : Int).toNat - (gd o3.2 1).i.toNat : Nat) : Int).toNat).take ((gd o3.2 0).l.length : Int).toNat)).length : Int)) then
 if (winOk 0 (((gd o3.2 1).i.toNat - 0 : Nat) : Int).toNat (((((gd o3.2 0).l.drop 0).take (gd o3.2 1).i.toNat) ++ (List.replicate ((((gd o3.2 0).l.length : Int).toNat - (gd o3.2 1).i.toNat : Nat) : Int).toNat ((.pair (.str []) (.pair (.int 0) (.pair (.int 0) (.pair (.str []) .unit)))) : D))) ++ (((((gd o3.2 0).l.drop (gd o3.2 1).i.toNat).take ((gd o3.2 0).l.length : Int).toNat).drop ((((gd o3.2 0).l.length : Int).toNat - (gd o3.2 1).i.toNat : Nat) : Int).toNat).take ((gd o3.2 0).l.length : Int).toNat))) then
 ou 0 [(D.lst (((((((gd o3.2 0).l.drop 0).take (gd o3.2 1).i.toNat) ++ (List.replicate ((((gd o3.2 0).l.length : Int).toNat - (gd o3.2 1).i.toNat : Nat) : Int).toNat ((.pair (.str []) (.pair (.int 0) (.pair (.int 0) (.pair (.str []) .unit)))) : D))) ++ (((((gd o3.2 0).l.drop (gd o3.2 1).i.toNat).take ((gd o3.2 0).l.length : Int).toNat).drop ((((gd o3.2 0).l.length : Int).toNat - (gd o3.2 1).i.toNat : Nat) : Int).toNat).take ((gd o3.2 0).l.length : Int).toNat)).drop 0).take (((gd o3.2 1).i.toNat - 0 : Nat) : Int).toNat))]
 else none
 else none
 else none
 else none) fun _ => none) := by kernel_rfl
theorem z18 (a0 a1 a2 : D) : z07.F [a0, a1, a2] = rn (
 (z0a (fun l3 =>
 if (decide ((gd l3 0).i < (gd l3 1).i)) then
 if (decide (0 ≤ 1)) then
 if (inb (IntKind.wrap .i64 ((IntKind.wrap .u64 (IntKind.wrap .i64 ((gd l3 0).i + (gd l3 1).i))).fdiv (2 ^ min 1 (IntKind.bits .u64)))) a0.l.length) then
 (z0s.F [(gd a0.l (IntKind.wrap .i64 ((IntKind.wrap .u64 (IntKind.wrap .i64 ((gd l3 0).i + (gd l3 1).i))).fdiv (2 ^ min 1 (IntKind.bits .u64)))).toNat), a1]).bind fun r5 =>
 if (decide (r5.i < 0)) then
 ou 0 [(.int (IntKind.wrap .i64 ((IntKind.wrap .i64 ((IntKind.wrap .u64 (IntKind.wrap .i64 ((gd l3 0).i + (gd l3 1).i))).fdiv (2 ^ min 1 (IntKind.bits .u64)))) + 1))), (gd l3 1)]
 else
 ou 0 [(gd l3 0), (.int (IntKind.wrap .i64 ((IntKind.wrap .u64 (IntKind.wrap .i64 ((gd l3 0).i + (gd l3 1).i))).fdiv (2 ^ min 1 (IntKind.bits .u64)))))]
 else none
 else none
 else
 ou 1 [(gd l3 0)]) [(.int 0), (.int (a0.l.length : Int))]).bind fun o3 =>
 sel2 o3.1 ((if (decide ((gd o3.2 0).i < (a0.l.length : Int))) then
 if (inb (gd o3.2 0).i a0.l.length) then
 (z0s.F [(gd a0.l (gd o3.2 0).i.toNat), a1]).bind fun r4 =>
 ou 0 [(gd o3.2 0), (.bool (r4.i == 0))]
 else none
 else
 ou 0 [(gd o3.2 0), (.bool false)]).bind fun o4 =>
 sel2 o4.1 (ou 0 [(.pair (gd o4.2 0) (.pair (gd o4.2 1) .unit))]) fun _ => none) fun _ => none) := by kernel_rfl
theorem zMl (a0 a1 : D) : z5Z.F [a0, a1] = rn (
 (z07.F [a0, a1, .unit]).bind fun r2 =>
 if (r2.fld 1).b then
 ou 0 [a0]
 else
 (z1F.F [a0, (r2.fld 0), (D.lst (a1 :: ([] : List D)))]).bind fun r3 =>
 ou 0 [r3]) := by kernel_rfl
theorem zFq (a0 a1 : D) : z4f.F [a0, a1] = rn (
 (z0H.F [a0]).bind fun r2 =>
 (z0a (fun l3 =>
 if (decide ((gd l3 1).i < (a1.l.length : Int))) then
 (if (inb (gd l3 1).i a1.l.length) then
 (if (((gd a1.l (gd l3 1).i.toNat).fld 0).i != 1) then
 ou 0 [(.bool (((gd a1.l (gd l3 1).i.toNat).fld 0).i != 2))]
 else
 ou 0 [(.bool false)]).bind fun o5 =>
 sel2 o5.1 (if (gd o5.2 0).b then
 ou 0 [(gd l3 0)]
 else
 (z08.F [(gd l3 0), (.pair ((gd a1.l (gd l3 1).i.toNat).fld 1) .unit)]).bind fun r6 =>
 if (((gd a1.l (gd l3 1).i.toNat).fld 0).i == 1) then
 (z5Z.F [r6, ((gd a1.l (gd l3 1).i.toNat).fld 1)]).bind fun r7 =>
 ou 0 [r7]
 else
 ou 0 [r6]) fun _ => none
 else none).bind fun o5 =>
 sel2 o5.1 (ou 0 [(gd o5.2 0), (.int (IntKind.wrap .i64 ((gd l3 1).i + 1)))]) fun _ => none
 else
 ou 1 [(gd l3 0)]) [r2, (.int 0)]).bind fun o3 =>
 sel2 o3.1 (ou 0 [(gd o3.2 0)]) fun _ => none) := by kernel_rfl
theorem zFr (a0 a1 : D) : z4g.F [a0, a1] = rn (
 (z0H.F [a0]).bind fun r2 =>
 (z0a (fun l3 =>
 if (decide ((gd l3 1).i < (r2.l.length : Int))) then
 (if (inb (gd l3 1).i (gd l3 0).l.length) then
 if (((gd (gd l3 0).l (gd l3 1).i.toNat).fld 1).i == 6) then
 (z29.F [a1]).bind fun r5 =>
 ou 0 [(D.lst (upd (gd l3 0).l (gd l3 1).i.toNat 3 r5))]
 else
 ou 0 [(gd l3 0)]
 else none).bind fun o5 =>
 sel2 o5.1 (ou 0 [(gd o5.2 0), (.int (IntKind.wrap .i64 ((gd l3 1).i + 1)))]) fun _ => none
 else
 ou 1 [(gd l3 0)]) [r2, (.int 0)]).bind fun o3 =>
 sel2 o3.1 (ou 0 [(gd o3.2 0)]) fun _ => none) := by kernel_rfl
theorem zJM (a0 a1 : D) : z4z.F [a0, a1] = rn (
 (z3N.F [a1]).bind fun r2 =>
 if (!r2.b) then
 ou 0 [(.pair (.pair (.str []) (.pair (.int 0) (.pair (D.lst []) .unit))) (.pair (.int 1) .unit))]
 else
 (z0O.F [a1, (.pair a0 .unit)]).bind fun r3 =>
 if r3.b then
 ou 0 [(.pair (.pair (.str []) (.pair (.int 0) (.pair (D.lst []) .unit))) (.pair (.int 2) .unit))]
 else
 (z4f.F [(a0.fld 2), a1]).bind fun r4 =>
 (if (decide ((r4.l.length : Int) > 40)) then
 ou 0 [(.bool true)]
 else
 ou 0 [(.bool ((a0.fld 1).i == 1152921504606846976))]).bind fun o5 =>
 sel2 o5.1 (if (gd o5.2 0).b then
 ou 0 [(.pair (.pair (.str []) (.pair (.int 0) (.pair (D.lst []) .unit))) (.pair (.int 4) .unit))]
 else
 (z3h.F [(a0.fld 0), r4]).bind fun r6 =>
 if (r6.i != 0) then
 ou 0 [(.pair (.pair (.str []) (.pair (.int 0) (.pair (D.lst []) .unit))) (.pair (.int 3) .unit))]
 else
 (z4g.F [r4, (.int (IntKind.wrap .i64 ((a0.fld 1).i + 1)))]).bind fun r7 =>
 ou 0 [(.pair (.pair (a0.fld 0) (.pair (.int (IntKind.wrap .i64 ((a0.fld 1).i + 1))) (.pair r7 .unit))) (.pair (.int 0) .unit))]) fun _ => none) := by kernel_rfl
theorem z9N (a0 a1 : D) : z25.F [a0, a1] = rn (
 (z4J.F [(a1.fld 0), (a1.fld 1)]).bind fun r2 =>
 if (!r2.b) then
 ou 0 [(.pair (.pair (.pair (.str []) (.pair (.int 0) (.pair (D.lst []) .unit))) (.pair (D.lst []) (.pair (.int 0) .unit))) (.pair (.pair (.int 0) (.pair (.int 0) (.pair (.int 0) (.pair (.int 0) .unit)))) (.pair (.bool false) .unit)))]
 else
 (z3S.F [a0]).bind fun r3 =>
 (z2q.F [a0, (a1.fld 0)]).bind fun r4 =>
 ((if (r4.fld 1).b then
 if (inb (r4.fld 0).i (a0.fld 1).l.length) then
 ou 0 [(.bool (((gd (a0.fld 1).l (r4.fld 0).i.toNat).fld 1).i == (a1.fld 1).i))]
 else none
 else
 ou 0 [(.bool false)]).bind fun o5 =>
 sel2 o5.1 (if (gd o5.2 0).b then
 if (inb (r4.fld 0).i (a0.fld 1).l.length) then
 ou 1 [r3, (gd (a0.fld 1).l (r4.fld 0).i.toNat), (.bool true)]
 else none
 else
 ((if (r4.fld 1).b then
 if (inb (r4.fld 0).i (a0.fld 1).l.length) then
 ou 0 [(.bool (decide (((gd (a0.fld 1).l (r4.fld 0).i.toNat).fld 1).i > (a1.fld 1).i)))]
 else none
 else
 ou 0 [(.bool false)]).bind fun o6 =>
 sel2 o6.1 (if (gd o6.2 0).b then
 ou 0 [(gd o6.2 0)]
 else
 (if (!(r4.fld 1).b) then
 ou 0 [(.bool (((a0.fld 1).l.length : Int) == 8))]
 else
 ou 0 [(.bool false)]).bind fun o7 =>
 sel2 o7.1 (if (gd o7.2 0).b then
 ou 0 [(gd o7.2 0)]
 else
 ou 0 [(.bool ((a0.fld 2).i == 1000000))]) fun _ => none) fun _ => none).bind fun o6 =>
 sel2 o6.1 (if (gd o6.2 0).b then
 ou 1 [(.pair (.pair (.str []) (.pair (.int 0) (.pair (D.lst []) .unit))) (.pair (D.lst []) (.pair (.int 0) .unit))), (.pair (.int 0) (.pair (.int 0) (.pair (.int 0) (.pair (.int 0) .unit)))), (.bool false)]
 else
 if (!(r4.fld 1).b) then
 (z13.F [(r3.fld 1), (r4.fld 0), (D.lst ((.pair (.int 0) (.pair (.int 0) (.pair (.int 0) (.pair (.int 0) .unit)))) :: ([] : List D)))]).bind fun r7 =>
 ou 0 [(r3.setFld 1 r7)]
 else
 ou 0 [r3]) fun _ => none) fun _ => none).bind fun o5 =>
 sel2 o5.1 ((z4z.F [((gd o5.2 0).fld 0), (a1.fld 2)]).bind fun r6 =>
 (if ((r6.fld 1).i == 0) then
 ou 0 [((gd o5.2 0).setFld 0 (r6.fld 0))]
 else
 ou 0 [(gd o5.2 0)]).bind fun o7 =>
 sel2 o7.1 (if (4294967296 != 0) then
 if (inb (r4.fld 0).i ((gd o7.2 0).fld 1).l.length) then
 ou 0 [(.pair (((gd o7.2 0).setFld 2 (.int (IntKind.wrap .i64 (((gd o7.2 0).fld 2).i + 1)))).setFld 1 (D.lst (((gd o7.2 0).fld 1).l.set (r4.fld 0).i.toNat (.pair (a1.fld 0) (.pair (a1.fld 1) (.pair (r6.fld 1) (.pair (.int ((((gd o7.2 0).fld 0).fld 1).i.tmod 4294967296)) .unit))))))) (.pair (.pair (a1.fld 0) (.pair (a1.fld 1) (.pair (r6.fld 1) (.pair (.int ((((gd o7.2 0).fld 0).fld 1).i.tmod 4294967296)) .unit)))) (.pair (.bool true) .unit)))]
 else none
 else none) fun _ => none) fun n4 =>
 sel2 n4 (ou 0 [(.pair (gd o5.2 0) (.pair (gd o5.2 1) (.pair (gd o5.2 2) .unit)))]) fun _ => none) := by kernel_rfl
theorem zEb (a0 a1 : D) : z2s.F [a0, a1] = rn (
 if (!((a0.fld 0).s == (a1.fld 0).s)) then
 ou 0 [(.bool false)]
 else
 if ((a0.fld 1).i != (a1.fld 1).i) then
 ou 0 [(.bool false)]
 else
 if ((a0.fld 2).i != (a1.fld 2).i) then
 ou 0 [(.bool false)]
 else
 if (!((a0.fld 3).s == (a1.fld 3).s)) then
 ou 0 [(.bool false)]
 else
 ou 0 [(.bool true)]) := by kernel_rfl
theorem zCX (a0 a1 : D) : z3v.F [a0, a1] = rn (
 if ((a0.l.length : Int) != (a1.l.length : Int)) then
 ou 0 [(.bool false)]
 else
 (z0a (fun l2 =>
 if (decide ((gd l2 0).i < (a0.l.length : Int))) then
 if (inb (gd l2 0).i a0.l.length) then
 if (inb (gd l2 0).i a1.l.length) then
 (z2s.F [(gd a0.l (gd l2 0).i.toNat), (gd a1.l (gd l2 0).i.toNat)]).bind fun r3 =>
 if (!r3.b) then
 ou 1 []
 else
 ou 0 [(.int (IntKind.wrap .i64 ((gd l2 0).i + 1)))]
 else none
 else none
 else
 ou 2 []) [(.int 0)]).bind fun o2 =>
 sel2 o2.1 (ou 0 [(.bool false)]) fun n4 =>
 sel2 n4 (ou 0 [(.bool true)]) fun _ => none) := by kernel_rfl
theorem zHi (a0 a1 : D) : z5H.F [a0, a1] = rn (
 if (!((a0.fld 0).s == (a1.fld 0).s)) then
 ou 0 [(.bool false)]
 else
 if ((a0.fld 1).i != (a1.fld 1).i) then
 ou 0 [(.bool false)]
 else
 (z3v.F [(a0.fld 2), (a1.fld 2)]).bind fun r2 =>
 if (!r2.b) then
 ou 0 [(.bool false)]
 else
 ou 0 [(.bool true)]) := by kernel_rfl
theorem zHh (a0 a1 : D) : z5G.F [a0, a1] = rn (
 if ((a0.fld 0).i != (a1.fld 0).i) then
 ou 0 [(.bool false)]
 else
 if ((a0.fld 1).i != (a1.fld 1).i) then
 ou 0 [(.bool false)]
 else
 if ((a0.fld 2).i != (a1.fld 2).i) then
 ou 0 [(.bool false)]
 else
 if ((a0.fld 3).i != (a1.fld 3).i) then
 ou 0 [(.bool false)]
 else
 ou 0 [(.bool true)]) := by kernel_rfl
theorem zFx (a0 a1 : D) : z1c.F [a0, a1] = rn (
 if ((a0.l.length : Int) != (a1.l.length : Int)) then
 ou 0 [(.bool false)]
 else
 (z0a (fun l2 =>
 if (decide ((gd l2 0).i < (a0.l.length : Int))) then
 if (inb (gd l2 0).i a0.l.length) then
 if (inb (gd l2 0).i a1.l.length) then
 (z5G.F [(gd a0.l (gd l2 0).i.toNat), (gd a1.l (gd l2 0).i.toNat)]).bind fun r3 =>
 if (!r3.b) then
 ou 1 []
 else
 ou 0 [(.int (IntKind.wrap .i64 ((gd l2 0).i + 1)))]
 else none
 else none
 else
 ou 2 []) [(.int 0)]).bind fun o2 =>
 sel2 o2.1 (ou 0 [(.bool false)]) fun n4 =>
 sel2 n4 (ou 0 [(.bool true)]) fun _ => none) := by kernel_rfl
theorem zCW (a0 a1 : D) : z1k.F [a0, a1] = rn (
 (z5H.F [(a0.fld 0), (a1.fld 0)]).bind fun r2 =>
 if (!r2.b) then
 ou 0 [(.bool false)]
 else
 (z1c.F [(a0.fld 1), (a1.fld 1)]).bind fun r3 =>
 if (!r3.b) then
 ou 0 [(.bool false)]
 else
 if ((a0.fld 2).i != (a1.fld 2).i) then
 ou 0 [(.bool false)]
 else
 ou 0 [(.bool true)]) := by kernel_rfl
theorem zEa (a0 a1 : D) : z3T.F [a0, a1] = rn (
 if ((a0.fld 0).i != (a1.fld 0).i) then
 ou 0 [(.bool false)]
 else
 (z2s.F [(a0.fld 1), (a1.fld 1)]).bind fun r2 =>
 if (!r2.b) then
 ou 0 [(.bool false)]
 else
 ou 0 [(.bool true)]) := by kernel_rfl
theorem zCV (a0 a1 : D) : z3u.F [a0, a1] = rn (
 if ((a0.l.length : Int) != (a1.l.length : Int)) then
 ou 0 [(.bool false)]
 else
 (z0a (fun l2 =>
 if (decide ((gd l2 0).i < (a0.l.length : Int))) then
 if (inb (gd l2 0).i a0.l.length) then
 if (inb (gd l2 0).i a1.l.length) then
 (z3T.F [(gd a0.l (gd l2 0).i.toNat), (gd a1.l (gd l2 0).i.toNat)]).bind fun r3 =>
 if (!r3.b) then
 ou 1 []
 else
 ou 0 [(.int (IntKind.wrap .i64 ((gd l2 0).i + 1)))]
 else none
 else none
 else
 ou 2 []) [(.int 0)]).bind fun o2 =>
 sel2 o2.1 (ou 0 [(.bool false)]) fun n4 =>
 sel2 n4 (ou 0 [(.bool true)]) fun _ => none) := by kernel_rfl
theorem zFw (a0 a1 : D) : z45.F [a0, a1] = rn (
 if ((a0.fld 0).i != (a1.fld 0).i) then
 ou 0 [(.bool false)]
 else
 if ((a0.fld 1).i != (a1.fld 1).i) then
 ou 0 [(.bool false)]
 else
 (z3u.F [(a0.fld 2), (a1.fld 2)]).bind fun r2 =>
 if (!r2.b) then
 ou 0 [(.bool false)]
 else
 ou 0 [(.bool true)]) := by kernel_rfl
theorem zEd (a0 : D) : z0k.F [a0] = rn (
 if (decide (a0.i ≤ 0)) then
 ou 0 [(D.str [109, 48])]
 else
 (z0a (fun l1 =>
 if (decide ((gd l1 0).i > 0)) then
 if (10 != 0) then
 if (catOk (z0e ((.int (IntKind.wrap .u8 (IntKind.wrap .i64 (48 + ((gd l1 0).i.tmod 10))))) :: ([] : List D))) (gd l1 1).s) then
 ou 0 [(.int (IntKind.wrap .i64 ((gd l1 0).i.tdiv 10))), (.str ((z0e ((.int (IntKind.wrap .u8 (IntKind.wrap .i64 (48 + ((gd l1 0).i.tmod 10))))) :: ([] : List D))) ++ (gd l1 1).s))]
 else none
 else none
 else
 ou 1 [(gd l1 1)]) [a0, (D.str [])]).bind fun o1 =>
 sel2 o1.1 (if (catOk ([109] : List UInt8) (gd o1.2 0).s) then
 ou 0 [(.str (([109] : List UInt8) ++ (gd o1.2 0).s))]
 else none) fun _ => none) := by kernel_rfl
theorem zAI (a0 a1 : D) : z3A.F [a0, a1] = rn (
 (z0a (fun l2 =>
 if (decide ((gd l2 2).i < ((gd l2 0).l.length : Int))) then
 (z0k.F [(gd l2 1)]).bind fun r5 =>
 if (inb (gd l2 2).i (gd l2 0).l.length) then
 (z0k.F [(.int (IntKind.wrap .i64 ((IntKind.wrap .i64 ((IntKind.wrap .i64 ((gd l2 1).i + 1)) + 1)) + 1)))]).bind fun r6 =>
 ou 0 [(D.lst (upd (upd (upd (upd (gd l2 0).l (gd l2 2).i.toNat 0 r5) (gd l2 2).i.toNat 1 (.int (IntKind.wrap .i64 ((gd l2 1).i + 1)))) (gd l2 2).i.toNat 2 (.int (IntKind.wrap .i64 ((IntKind.wrap .i64 ((gd l2 1).i + 1)) + 1)))) (gd l2 2).i.toNat 3 r6)), (.int (IntKind.wrap .i64 ((IntKind.wrap .i64 ((IntKind.wrap .i64 ((IntKind.wrap .i64 ((gd l2 1).i + 1)) + 1)) + 1)) + 1))), (.int (IntKind.wrap .i64 ((gd l2 2).i + 1)))]
 else none
 else
 ou 1 [(gd l2 0), (gd l2 1)]) [a0, a1, (.int 0)]).bind fun o2 =>
 sel2 o2.1 (ou 0 [(.pair (gd o2.2 1) (.pair (gd o2.2 0) .unit))]) fun _ => none) := by kernel_rfl
theorem zEe (a0 a1 : D) : z4M.F [a0, a1] = rn (
 (z3A.F [(a0.fld 2), a1]).bind fun r2 =>
 ou 0 [(.pair (r2.fld 0) (.pair (D.mix (.pair .str (.pair (.int .i64) (.pair (.lst true (.pair .str (.pair (.int .i64) (.pair (.int .i64) (.pair .str .unit))))) .unit))) a0 (a0.setFld 2 (r2.fld 1))) .unit))]) := by kernel_rfl
theorem zCZ (a0 a1 : D) : z2c.F [a0, a1] = rn (
 (z0a (fun l2 =>
 if (decide ((gd l2 2).i < ((gd l2 0).l.length : Int))) then
 if (inb (gd l2 2).i (gd l2 0).l.length) then
 ou 0 [(D.lst (upd (upd (upd (upd (gd l2 0).l (gd l2 2).i.toNat 0 (gd l2 1)) (gd l2 2).i.toNat 1 (.int (IntKind.wrap .i64 ((gd l2 1).i + 1)))) (gd l2 2).i.toNat 2 (.int (IntKind.wrap .i64 ((IntKind.wrap .i64 ((gd l2 1).i + 1)) + 1)))) (gd l2 2).i.toNat 3 (.int (IntKind.wrap .i64 ((IntKind.wrap .i64 ((IntKind.wrap .i64 ((gd l2 1).i + 1)) + 1)) + 1))))), (.int (IntKind.wrap .i64 ((IntKind.wrap .i64 ((IntKind.wrap .i64 ((IntKind.wrap .i64 ((gd l2 1).i + 1)) + 1)) + 1)) + 1))), (.int (IntKind.wrap .i64 ((gd l2 2).i + 1)))]
 else none
 else
 ou 1 [(gd l2 0), (gd l2 1)]) [a0, a1, (.int 0)]).bind fun o2 =>
 sel2 o2.1 (ou 0 [(.pair (gd o2.2 1) (.pair (gd o2.2 0) .unit))]) fun _ => none) := by kernel_rfl
theorem zAH (a0 a1 : D) : z39.F [a0, a1] = rn (
 (z4M.F [(a0.fld 0), a1]).bind fun r2 =>
 (z2c.F [(a0.fld 1), (r2.fld 0)]).bind fun r3 =>
 ou 0 [(.pair (r3.fld 0) (.pair (D.mix (.pair (.pair .str (.pair (.int .i64) (.pair (.lst true (.pair .str (.pair (.int .i64) (.pair (.int .i64) (.pair .str .unit))))) .unit))) (.pair (.lst true (.pair (.int .i64) (.pair (.int .i64) (.pair (.int .i64) (.pair (.int .i64) .unit))))) (.pair (.int .i64) .unit))) a0 ((a0.setFld 0 (.pair ((a0.fld 0).fld 0) (.pair ((a0.fld 0).fld 1) (.pair ((r2.fld 1).fld 2) .unit)))).setFld 1 (r3.fld 1))) .unit))]) := by kernel_rfl
theorem zAG (a0 a1 : D) : z2b.F [a0, a1] = rn (
 (z0a (fun l2 =>
 if (decide ((gd l2 2).i < ((gd l2 0).l.length : Int))) then
 if (inb (gd l2 2).i (gd l2 0).l.length) then
 (z0k.F [(.int (IntKind.wrap .i64 ((gd l2 1).i + 1)))]).bind fun r5 =>
 (z0k.F [(.int (IntKind.wrap .i64 ((IntKind.wrap .i64 ((IntKind.wrap .i64 ((IntKind.wrap .i64 ((gd l2 1).i + 1)) + 1)) + 1)) + 1)))]).bind fun r6 =>
 ou 0 [(D.lst (upd2 (upd2 (upd2 (upd2 (upd (gd l2 0).l (gd l2 2).i.toNat 0 (gd l2 1)) (gd l2 2).i.toNat 1 0 r5) (gd l2 2).i.toNat 1 1 (.int (IntKind.wrap .i64 ((IntKind.wrap .i64 ((gd l2 1).i + 1)) + 1)))) (gd l2 2).i.toNat 1 2 (.int (IntKind.wrap .i64 ((IntKind.wrap .i64 ((IntKind.wrap .i64 ((gd l2 1).i + 1)) + 1)) + 1)))) (gd l2 2).i.toNat 1 3 r6)), (.int (IntKind.wrap .i64 ((IntKind.wrap .i64 ((IntKind.wrap .i64 ((IntKind.wrap .i64 ((IntKind.wrap .i64 ((gd l2 1).i + 1)) + 1)) + 1)) + 1)) + 1))), (.int (IntKind.wrap .i64 ((gd l2 2).i + 1)))]
 else none
 else
 ou 1 [(gd l2 0), (gd l2 1)]) [a0, a1, (.int 0)]).bind fun o2 =>
 sel2 o2.1 (ou 0 [(.pair (gd o2.2 1) (.pair (gd o2.2 0) .unit))]) fun _ => none) := by kernel_rfl
theorem zAF (a0 a1 : D) : z38.F [a0, a1] = rn (
 (z0a (fun l2 =>
 if (decide ((gd l2 1).i < (a0.l.length : Int))) then
 if (inb (gd l2 1).i a0.l.length) then
 (z0k.F [(gd l2 0)]).bind fun r4 =>
 if (!(((gd a0.l (gd l2 1).i.toNat).fld 0).s == r4.s)) then
 ou 1 [(.int (-1))]
 else
 if (((gd a0.l (gd l2 1).i.toNat).fld 1).i != (IntKind.wrap .i64 ((gd l2 0).i + 1))) then
 ou 1 [(.int (-1))]
 else
 if (((gd a0.l (gd l2 1).i.toNat).fld 2).i != (IntKind.wrap .i64 ((IntKind.wrap .i64 ((gd l2 0).i + 1)) + 1))) then
 ou 1 [(.int (-1))]
 else
 (z0k.F [(.int (IntKind.wrap .i64 ((IntKind.wrap .i64 ((IntKind.wrap .i64 ((gd l2 0).i + 1)) + 1)) + 1)))]).bind fun r5 =>
 if (!(((gd a0.l (gd l2 1).i.toNat).fld 3).s == r5.s)) then
 ou 1 [(.int (-1))]
 else
 ou 0 [(.int (IntKind.wrap .i64 ((IntKind.wrap .i64 ((IntKind.wrap .i64 ((IntKind.wrap .i64 ((gd l2 0).i + 1)) + 1)) + 1)) + 1))), (.int (IntKind.wrap .i64 ((gd l2 1).i + 1)))]
 else none
 else
 ou 2 [(gd l2 0)]) [a1, (.int 0)]).bind fun o2 =>
 sel2 o2.1 (ou 0 [(gd o2.2 0)]) fun n2 =>
 sel2 n2 (ou 0 [(gd o2.2 0)]) fun _ => none) := by kernel_rfl
theorem zEc (a0 a1 : D) : z4L.F [a0, a1] = rn (
 (z38.F [(a0.fld 2), a1]).bind fun r2 =>
 if (decide (r2.i < 0)) then
 ou 0 [(.int (-1))]
 else
 ou 0 [r2]) := by kernel_rfl
theorem zCY (a0 a1 : D) : z1T.F [a0, a1] = rn (
 (z0a (fun l2 =>
 if (decide ((gd l2 1).i < (a0.l.length : Int))) then
 if (inb (gd l2 1).i a0.l.length) then
 if (((gd a0.l (gd l2 1).i.toNat).fld 0).i != (gd l2 0).i) then
 ou 1 [(.int (-1))]
 else
 if (((gd a0.l (gd l2 1).i.toNat).fld 1).i != (IntKind.wrap .i64 ((gd l2 0).i + 1))) then
 ou 1 [(.int (-1))]
 else
 if (((gd a0.l (gd l2 1).i.toNat).fld 2).i != (IntKind.wrap .i64 ((IntKind.wrap .i64 ((gd l2 0).i + 1)) + 1))) then
 ou 1 [(.int (-1))]
 else
 if (((gd a0.l (gd l2 1).i.toNat).fld 3).i != (IntKind.wrap .i64 ((IntKind.wrap .i64 ((IntKind.wrap .i64 ((gd l2 0).i + 1)) + 1)) + 1))) then
 ou 1 [(.int (-1))]
 else
 ou 0 [(.int (IntKind.wrap .i64 ((IntKind.wrap .i64 ((IntKind.wrap .i64 ((IntKind.wrap .i64 ((gd l2 0).i + 1)) + 1)) + 1)) + 1))), (.int (IntKind.wrap .i64 ((gd l2 1).i + 1)))]
 else none
 else
 ou 2 [(gd l2 0)]) [a1, (.int 0)]).bind fun o2 =>
 sel2 o2.1 (ou 0 [(gd o2.2 0)]) fun n2 =>
 sel2 n2 (ou 0 [(gd o2.2 0)]) fun _ => none) := by kernel_rfl
theorem zAE (a0 a1 : D) : z1g.F [a0, a1] = rn (
 (z4L.F [(a0.fld 0), a1]).bind fun r2 =>
 if (decide (r2.i < 0)) then
 ou 0 [(.int (-1))]
 else
 (z1T.F [(a0.fld 1), r2]).bind fun r3 =>
 if (decide (r3.i < 0)) then
 ou 0 [(.int (-1))]
 else
 ou 0 [r3]) := by kernel_rfl
theorem zEf (a0 a1 : D) : z4N.F [a0, a1] = rn (
 if (decide ((IntKind.wrap .i64 (a1.i - (a0.l.length : Int))) < 0)) then
 ou 0 [(.int (-1))]
 else
 (z0a (fun l2 =>
 if (decide ((gd l2 1).i < (a0.l.length : Int))) then
 if (inb (gd l2 1).i a0.l.length) then
 (z47.F [(gd a0.l (gd l2 1).i.toNat), (gd l2 0)]).bind fun r4 =>
 if (decide (r4.i < 0)) then
 ou 1 [(.int (-1))]
 else
 ou 0 [r4, (.int (IntKind.wrap .i64 ((gd l2 1).i + 1)))]
 else none
 else
 ou 2 [(gd l2 0)]) [(.int (IntKind.wrap .i64 (a1.i - (a0.l.length : Int)))), (.int 0)]).bind fun o2 =>
 sel2 o2.1 (ou 0 [(gd o2.2 0)]) fun n4 =>
 sel2 n4 (ou 0 [(gd o2.2 0)]) fun _ => none) := by kernel_rfl
theorem zEi (a0 : D) : z2N.F [a0] = rn (
 if (makeOk 40 (a0.l.length : Int)) then
 (z0a (fun l1 =>
 if (decide ((gd l1 1).i < (a0.l.length : Int))) then
 if (inb (gd l1 1).i a0.l.length) then
 (z48.F [(gd a0.l (gd l1 1).i.toNat)]).bind fun r3 =>
 if (inb (gd l1 1).i (gd l1 0).l.length) then
 ou 0 [(D.lst ((gd l1 0).l.set (gd l1 1).i.toNat r3)), (.int (IntKind.wrap .i64 ((gd l1 1).i + 1)))]
 else none
 else none
 else
 ou 1 [(gd l1 0)]) [(D.lst (List.replicate (a0.l.length : Int).toNat ((.pair (.int 0) (.pair (.int 0) (.pair (D.lst []) .unit))) : D))), (.int 0)]).bind fun o1 =>
 sel2 o1.1 (ou 0 [(gd o1.2 0)]) fun _ => none
 else none) := by kernel_rfl
theorem zG0 (a0 : D) : z4k.F [a0] = rn (
 (z3k.F [a0]).bind fun r1 =>
 if (!r1.b) then
 ou 0 [(.pair (.pair (.str []) (.pair (.int 0) (.pair (D.lst []) .unit))) (.pair (.bool false) .unit))]
 else
 ou 0 [(.pair (.pair a0 (.pair (.int 0) (.pair (D.lst ((.pair a0 (.pair (.int 6) (.pair (.int 60) (.pair (D.str [48]) .unit)))) :: ([] : List D))) .unit))) (.pair (.bool true) .unit))]) := by kernel_rfl
theorem zBK (a0 : D) : z3X.F [a0] = rn (
 (z4k.F [a0]).bind fun r1 =>
 if (!(r1.fld 1).b) then
 ou 0 [(.pair (.pair (.pair (.str []) (.pair (.int 0) (.pair (D.lst []) .unit))) (.pair (D.lst []) (.pair (.int 0) .unit))) (.pair (.bool false) .unit))]
 else
 ou 0 [(.pair (.pair (r1.fld 0) (.pair (D.lst []) (.pair (.int 0) .unit))) (.pair (.bool true) .unit))]) := by kernel_rfl
theorem zCc (a0 a1 : D) : z3y.F [a0, a1] = rn (
 (z3X.F [a0]).bind fun r2 =>
 (if (!(r2.fld 1).b) then
 ou 0 [(.bool true)]
 else
 ou 0 [(.bool (decide ((a1.l.length : Int) > 40)))]).bind fun o3 =>
 sel2 o3.1 (if (gd o3.2 0).b then
 ou 0 [(.pair (.pair (.pair (.str []) (.pair (.int 0) (.pair (D.lst []) .unit))) (.pair (D.lst []) (.pair (.int 0) .unit))) (.pair (D.lst []) (.pair (.bool false) .unit)))]
 else
 (z0a (fun l4 =>
 if (decide ((gd l4 2).i < (a1.l.length : Int))) then
 if (inb (gd l4 2).i a1.l.length) then
 (z4V.F [(gd l4 0)]).bind fun r7 =>
 (z49.F [r7, (gd a1.l (gd l4 2).i.toNat)]).bind fun r8 =>
 (if (r8.fld 2).b then
 ou 0 [(r8.fld 0)]
 else
 ou 0 [(gd l4 0)]).bind fun o9 =>
 sel2 o9.1 (if (appOk 32 (gd l4 1).l ((r8.fld 1) :: ([] : List D))) then
 ou 0 [(gd o9.2 0), (D.lst ((gd l4 1).l ++ ((r8.fld 1) :: ([] : List D)))), (.int (IntKind.wrap .i64 ((gd l4 2).i + 1)))]
 else none) fun _ => none
 else none
 else
 ou 1 [(gd l4 0), (gd l4 1)]) [(r2.fld 0), (D.lst []), (.int 0)]).bind fun o4 =>
 sel2 o4.1 ((z4V.F [(gd o4.2 0)]).bind fun r6 =>
 ou 0 [(.pair r6 (.pair (gd o4.2 1) (.pair (.bool true) .unit)))]) fun _ => none) fun _ => none) := by kernel_rfl
theorem zFo (a0 : D) : z4e.F [a0] = rn (
 (z4I.F [(.pair a0 (.pair (.int 0) (.pair (D.lst ((.pair a0 (.pair (.int 6) (.pair (.int 60) (.pair (D.str [48]) .unit)))) :: ([] : List D))) .unit)))]).bind fun r1 =>
 if (!r1.b) then
 ou 0 [(.pair (.pair (.str []) (.pair (.int 0) (.pair (D.lst []) .unit))) (.pair (.bool false) .unit))]
 else
 ou 0 [(.pair (.pair a0 (.pair (.int 0) (.pair (D.lst ((.pair a0 (.pair (.int 6) (.pair (.int 60) (.pair (D.str [48]) .unit)))) :: ([] : List D))) .unit))) (.pair (.bool true) .unit))]) := by kernel_rfl
theorem zBC (a0 : D) : z3L.F [a0] = rn (
 (z4e.F [a0]).bind fun r1 =>
 if (!(r1.fld 1).b) then
 ou 0 [(.pair (.pair (.pair (.str []) (.pair (.int 0) (.pair (D.lst []) .unit))) (.pair (D.lst []) (.pair (.int 0) .unit))) (.pair (.bool false) .unit))]
 else
 ou 0 [(.pair (.pair (r1.fld 0) (.pair (D.lst []) (.pair (.int 0) .unit))) (.pair (.bool true) .unit))]) := by kernel_rfl
theorem zCQ (a0 a1 : D) : z33.F [a0, a1] = rn (
 (z3L.F [a0]).bind fun r2 =>
 (if (!(r2.fld 1).b) then
 ou 0 [(.bool true)]
 else
 ou 0 [(.bool (decide ((a1.l.length : Int) > 40)))]).bind fun o3 =>
 sel2 o3.1 (if (gd o3.2 0).b then
 ou 0 [(.pair (.pair (.pair (.str []) (.pair (.int 0) (.pair (D.lst []) .unit))) (.pair (D.lst []) (.pair (.int 0) .unit))) (.pair (D.lst []) (.pair (.bool false) .unit)))]
 else
 (z0a (fun l4 =>
 if (decide ((gd l4 2).i < (a1.l.length : Int))) then
 if (inb (gd l4 2).i a1.l.length) then
 (z25.F [(gd l4 0), (gd a1.l (gd l4 2).i.toNat)]).bind fun r7 =>
 (if (r7.fld 2).b then
 ou 0 [(r7.fld 0)]
 else
 ou 0 [(gd l4 0)]).bind fun o8 =>
 sel2 o8.1 (if (appOk 32 (gd l4 1).l ((r7.fld 1) :: ([] : List D))) then
 ou 0 [(gd o8.2 0), (D.lst ((gd l4 1).l ++ ((r7.fld 1) :: ([] : List D)))), (.int (IntKind.wrap .i64 ((gd l4 2).i + 1)))]
 else none) fun _ => none
 else none
 else
 ou 1 [(gd l4 0), (gd l4 1)]) [(r2.fld 0), (D.lst []), (.int 0)]).bind fun o4 =>
 sel2 o4.1 (ou 0 [(.pair (gd o4.2 0) (.pair (gd o4.2 1) (.pair (.bool true) .unit)))]) fun _ => none) fun _ => none) := by kernel_rfl
theorem zEZ (a0 a1 : D) : z4K.F [a0, a1] = rn (
 if ((a0.l.length : Int) != (a1.l.length : Int)) then
 ou 0 [(.bool false)]
 else
 (z0a (fun l2 =>
 if (decide ((gd l2 0).i < (a0.l.length : Int))) then
 if (inb (gd l2 0).i a0.l.length) then
 if (inb (gd l2 0).i a1.l.length) then
 (z45.F [(gd a0.l (gd l2 0).i.toNat), (gd a1.l (gd l2 0).i.toNat)]).bind fun r3 =>
 if (!r3.b) then
 ou 1 []
 else
 ou 0 [(.int (IntKind.wrap .i64 ((gd l2 0).i + 1)))]
 else none
 else none
 else
 ou 2 []) [(.int 0)]).bind fun o2 =>
 sel2 o2.1 (ou 0 [(.bool false)]) fun n4 =>
 sel2 n4 (ou 0 [(.bool true)]) fun _ => none) := by kernel_rfl
theorem zBH (a0 a1 : D) : z3U.F [a0, a1] = rn (
 (z0a (fun l2 =>
 if (decide ((gd l2 2).i < ((gd l2 0).l.length : Int))) then
 if (inb (gd l2 2).i (gd l2 0).l.length) then
 (z2b.F [((gd (D.lst (upd (upd (gd l2 0).l (gd l2 2).i.toNat 0 (gd l2 1)) (gd l2 2).i.toNat 1 (.int (IntKind.wrap .i64 ((gd l2 1).i + 1))))).l (gd l2 2).i.toNat).fld 2), (.int (IntKind.wrap .i64 ((IntKind.wrap .i64 ((gd l2 1).i + 1)) + 1)))]).bind fun r5 =>
 ou 0 [(D.lst (upd (upd (upd (gd l2 0).l (gd l2 2).i.toNat 0 (gd l2 1)) (gd l2 2).i.toNat 1 (.int (IntKind.wrap .i64 ((gd l2 1).i + 1)))) (gd l2 2).i.toNat 2 (r5.fld 1))), (r5.fld 0), (.int (IntKind.wrap .i64 ((gd l2 2).i + 1)))]
 else none
 else
 ou 1 [(gd l2 0), (gd l2 1)]) [a0, a1, (.int 0)]).bind fun o2 =>
 sel2 o2.1 (ou 0 [(.pair (gd o2.2 1) (.pair (gd o2.2 0) .unit))]) fun _ => none) := by kernel_rfl
theorem z7N (a0 a1 : D) : z3i.F [a0, a1] = rn (
 if (decide ((a0.s.length : Int) > 1048576)) then
 ou 0 [(.bool true)]
 else
 (z4N.F [a1, (.int 1048576)]).bind fun r2 =>
 if (decide (r2.i < 0)) then
 ou 0 [(.bool true)]
 else
 (z2N.F [a1]).bind fun r3 =>
 (z3y.F [a0, r3]).bind fun r4 =>
 (z2N.F [a1]).bind fun r5 =>
 (z33.F [a0, r5]).bind fun r6 =>
 ((z1k.F [(r6.fld 0), (r4.fld 0)]).bind fun r7 =>
 if (!r7.b) then
 ou 0 [(.bool true)]
 else
 (z1c.F [(r6.fld 1), (r4.fld 1)]).bind fun r8 =>
 if (!r8.b) then
 ou 0 [(.bool true)]
 else
 ou 0 [(.bool (!((r6.fld 2).b == (r4.fld 2).b)))]).bind fun o7 =>
 sel2 o7.1 (if (gd o7.2 0).b then
 ou 0 [(.bool false)]
 else
 (z2N.F [a1]).bind fun r8 =>
 (z4K.F [r5, r8]).bind fun r9 =>
 if (!r9.b) then
 ou 0 [(.bool false)]
 else
 (z3U.F [r5, (.int 1)]).bind fun r10 =>
 (if (decide ((r10.fld 0).i < 0)) then
 ou 0 [(.bool true)]
 else
 (z1k.F [(r6.fld 0), (r4.fld 0)]).bind fun r11 =>
 if (!r11.b) then
 ou 0 [(.bool true)]
 else
 (z1c.F [(r6.fld 1), (r4.fld 1)]).bind fun r12 =>
 if (!r12.b) then
 ou 0 [(.bool true)]
 else
 ou 0 [(.bool (!((r6.fld 2).b == (r4.fld 2).b)))]).bind fun o11 =>
 sel2 o11.1 (if (gd o11.2 0).b then
 ou 0 [(.bool false)]
 else
 (z39.F [(r6.fld 0), (.int 1)]).bind fun r12 =>
 (z2c.F [(r6.fld 1), (r12.fld 0)]).bind fun r13 =>
 (z1g.F [(.pair (.pair (((r6.fld 0).fld 0).fld 0) (.pair (((r6.fld 0).fld 0).fld 1) (.pair (((r12.fld 1).fld 0).fld 2) .unit))) (.pair ((r12.fld 1).fld 1) (.pair ((r6.fld 0).fld 2) .unit))), (.int 1)]).bind fun r14 =>
 if (decide (r14.i < 0)) then
 ou 0 [(.bool false)]
 else
 (z1T.F [(r13.fld 1), r14]).bind fun r15 =>
 if (decide (r15.i < 0)) then
 ou 0 [(.bool false)]
 else
 if (r15.i != (r13.fld 0).i) then
 ou 0 [(.bool false)]
 else
 (z2N.F [a1]).bind fun r16 =>
 (z33.F [a0, r16]).bind fun r17 =>
 ((z1k.F [(r17.fld 0), (r4.fld 0)]).bind fun r18 =>
 if (!r18.b) then
 ou 0 [(.bool true)]
 else
 (z1c.F [(r17.fld 1), (r4.fld 1)]).bind fun r19 =>
 if (!r19.b) then
 ou 0 [(.bool true)]
 else
 ou 0 [(.bool (!((r17.fld 2).b == (r4.fld 2).b)))]).bind fun o18 =>
 sel2 o18.1 (if (gd o18.2 0).b then
 ou 0 [(.bool false)]
 else
 (z1g.F [(.pair (.pair (((r6.fld 0).fld 0).fld 0) (.pair (((r6.fld 0).fld 0).fld 1) (.pair (((r12.fld 1).fld 0).fld 2) .unit))) (.pair ((r12.fld 1).fld 1) (.pair ((r6.fld 0).fld 2) .unit))), (.int 1)]).bind fun r19 =>
 if (decide (r19.i < 0)) then
 ou 0 [(.bool false)]
 else
 (z1T.F [(r13.fld 1), r19]).bind fun r20 =>
 if (decide (r20.i < 0)) then
 ou 0 [(.bool false)]
 else
 if (r20.i != (r13.fld 0).i) then
 ou 0 [(.bool false)]
 else
 ou 0 [(.bool true)]) fun _ => none) fun _ => none) fun _ => none) := by kernel_rfl
end Go.Proofs.YtllbponcjpcbnaaGreatDoor
