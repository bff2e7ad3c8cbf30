/- What each function gives, told as plain code. -/
import Derived.Test.YtcnjllnhfoiojaaGreatDoorC
set_option linter.unusedSectionVars false
set_option linter.unusedVariables false
set_option linter.unusedSimpArgs false
namespace Go.Proofs.YtcnjllnhfoiojaaGreatDoor
open Go Go.Own
set_option maxRecDepth 100000
theorem zI4 (a0 a1:D):z5F.F [a0,a1]=rn (
 if (decide ((IntKind.wrap .i64 (a1.i-((a0.fld 0).s.length:Int)))<0))then
 ou 0 [(.int (-1))]
 else
 if (decide ((IntKind.wrap .i64 ((IntKind.wrap .i64 (a1.i-((a0.fld 0).s.length:Int)))-((a0.fld 3).s.length:Int)))<0))then
 ou 0 [(.int (-1))]
 else
 ou 0 [(.int (IntKind.wrap .i64 ((IntKind.wrap .i64 (a1.i-((a0.fld 0).s.length:Int)))-((a0.fld 3).s.length:Int))))]):=by kernel_rfl
theorem zFX (a0 a1:D):z1X.F [a0,a1]=rn (
 if (decide ((IntKind.wrap .i64 (a1.i-(a0.l.length:Int)))<0))then
 ou 0 [(.int (-1))]
 else
 (z0Y (fun l2=>
 if (decide ((gd l2 1).i<(a0.l.length:Int)))then
 if (inb (gd l2 1).i a0.l.length)then
 (z5F.F [(gd a0.l (gd l2 1).i.toNat),(gd l2 0)]).bind fun r4=>
 if (decide (r4.i<0))then
 ou 1 [(.int (-1))]
 else
 ou 0 [r4,(.int (IntKind.wrap .i64 ((gd l2 1).i+1)))]
 else none
 else
 ou 2 [(gd l2 0)]) [(.int (IntKind.wrap .i64 (a1.i-(a0.l.length:Int)))),(.int 0)]).bind fun o2=>
 sel2 o2.1 (ou 0 [(gd o2.2 0)]) fun n4=>
 sel2 n4 (ou 0 [(gd o2.2 0)]) fun _=>none):=by kernel_rfl
theorem zLf (a0 a1:D):z1g.F [a0,a1]=rn (
 if (decide ((IntKind.wrap .i64 (a1.i-((a0.fld 0).s.length:Int)))<0))then
 ou 0 [(.int (-1))]
 else
 (z1X.F [(a0.fld 2),(.int (IntKind.wrap .i64 (a1.i-((a0.fld 0).s.length:Int))))]).bind fun r2=>
 if (decide (r2.i<0))then
 ou 0 [(.int (-1))]
 else
 ou 0 [r2]):=by kernel_rfl
theorem zJa (a0 a1:D):z5g.F [a0,a1]=rn (
 if (decide ((IntKind.wrap .i64 (a1.i-(a0.l.length:Int)))<0))then
 ou 0 [(.int (-1))]
 else
 ou 0 [(.int (IntKind.wrap .i64 (a1.i-(a0.l.length:Int))))]):=by kernel_rfl
theorem zFU (a0 a1:D):z4h.F [a0,a1]=rn (
 (z1g.F [(a0.fld 0),a1]).bind fun r2=>
 if (decide (r2.i<0))then
 ou 0 [(.int (-1))]
 else
 (z5g.F [(a0.fld 1),r2]).bind fun r3=>
 if (decide (r3.i<0))then
 ou 0 [(.int (-1))]
 else
 ou 0 [r3]):=by kernel_rfl
theorem zLd (a0 a1:D):z30.F [a0,a1]=rn (
 (z1X.F [(a0.fld 2),a1]).bind fun r2=>
 if (decide (r2.i<0))then
 ou 0 [(.int (-1))]
 else
 (z1X.F [(a0.fld 3),r2]).bind fun r3=>
 if (decide (r3.i<0))then
 ou 0 [(.int (-1))]
 else
 ou 0 [r3]):=by kernel_rfl
theorem zJZ (a0 a1:D):z5f.F [a0,a1]=rn (
 if (decide ((IntKind.wrap .i64 (a1.i-(a0.l.length:Int)))<0))then
 ou 0 [(.int (-1))]
 else
 (z0Y (fun l2=>
 if (decide ((gd l2 1).i<(a0.l.length:Int)))then
 if (inb (gd l2 1).i a0.l.length)then
 (z30.F [(gd a0.l (gd l2 1).i.toNat),(gd l2 0)]).bind fun r4=>
 if (decide (r4.i<0))then
 ou 1 [(.int (-1))]
 else
 ou 0 [r4,(.int (IntKind.wrap .i64 ((gd l2 1).i+1)))]
 else none
 else
 ou 2 [(gd l2 0)]) [(.int (IntKind.wrap .i64 (a1.i-(a0.l.length:Int)))),(.int 0)]).bind fun o2=>
 sel2 o2.1 (ou 0 [(gd o2.2 0)]) fun n4=>
 sel2 n4 (ou 0 [(gd o2.2 0)]) fun _=>none):=by kernel_rfl
theorem zFV (a0 a1:D):z4i.F [a0,a1]=rn (
 if (decide ((IntKind.wrap .i64 (a1.i-((a0.fld 0).s.length:Int)))<0))then
 ou 0 [(.int (-1))]
 else
 (z5f.F [(a0.fld 2),(.int (IntKind.wrap .i64 (a1.i-((a0.fld 0).s.length:Int))))]).bind fun r2=>
 if (decide (r2.i<0))then
 ou 0 [(.int (-1))]
 else
 ou 0 [r2]):=by kernel_rfl
theorem zLe (a0 a1:D):z5O.F [a0,a1]=rn (
 (z1g.F [(a0.fld 0),a1]).bind fun r2=>
 if (decide (r2.i<0))then
 ou 0 [(.int (-1))]
 else
 (z1g.F [(a0.fld 1),r2]).bind fun r3=>
 if (decide (r3.i<0))then
 ou 0 [(.int (-1))]
 else
 ou 0 [r3]):=by kernel_rfl
theorem zJb (a0 a1:D):z5h.F [a0,a1]=rn (
 if (decide ((IntKind.wrap .i64 (a1.i-(a0.l.length:Int)))<0))then
 ou 0 [(.int (-1))]
 else
 (z0Y (fun l2=>
 if (decide ((gd l2 1).i<(a0.l.length:Int)))then
 if (inb (gd l2 1).i a0.l.length)then
 (z5O.F [(gd a0.l (gd l2 1).i.toNat),(gd l2 0)]).bind fun r4=>
 if (decide (r4.i<0))then
 ou 1 [(.int (-1))]
 else
 ou 0 [r4,(.int (IntKind.wrap .i64 ((gd l2 1).i+1)))]
 else none
 else
 ou 2 [(gd l2 0)]) [(.int (IntKind.wrap .i64 (a1.i-(a0.l.length:Int)))),(.int 0)]).bind fun o2=>
 sel2 o2.1 (ou 0 [(gd o2.2 0)]) fun n4=>
 sel2 n4 (ou 0 [(gd o2.2 0)]) fun _=>none):=by kernel_rfl
theorem zI3 (a0 a1:D):z4B.F [a0,a1]=rn (
 (z1g.F [(a0.fld 2),a1]).bind fun r2=>
 if (decide (r2.i<0))then
 ou 0 [(.int (-1))]
 else
 (z30.F [(a0.fld 3),r2]).bind fun r3=>
 if (decide (r3.i<0))then
 ou 0 [(.int (-1))]
 else
 ou 0 [r3]):=by kernel_rfl
theorem zFW (a0 a1:D):z4j.F [a0,a1]=rn (
 if (decide ((IntKind.wrap .i64 (a1.i-(a0.l.length:Int)))<0))then
 ou 0 [(.int (-1))]
 else
 (z0Y (fun l2=>
 if (decide ((gd l2 1).i<(a0.l.length:Int)))then
 if (inb (gd l2 1).i a0.l.length)then
 (z4B.F [(gd a0.l (gd l2 1).i.toNat),(gd l2 0)]).bind fun r4=>
 if (decide (r4.i<0))then
 ou 1 [(.int (-1))]
 else
 ou 0 [r4,(.int (IntKind.wrap .i64 ((gd l2 1).i+1)))]
 else none
 else
 ou 2 [(gd l2 0)]) [(.int (IntKind.wrap .i64 (a1.i-(a0.l.length:Int)))),(.int 0)]).bind fun o2=>
 sel2 o2.1 (ou 0 [(gd o2.2 0)]) fun n4=>
 sel2 n4 (ou 0 [(gd o2.2 0)]) fun _=>none):=by kernel_rfl
theorem zJc (a0 a1:D):z5i.F [a0,a1]=rn (
 (z4h.F [(a0.fld 0),a1]).bind fun r2=>
 if (decide (r2.i<0))then
 ou 0 [(.int (-1))]
 else
 (z4i.F [(a0.fld 1),r2]).bind fun r3=>
 if (decide (r3.i<0))then
 ou 0 [(.int (-1))]
 else
 (z5h.F [(a0.fld 2),r3]).bind fun r4=>
 if (decide (r4.i<0))then
 ou 0 [(.int (-1))]
 else
 (z4j.F [(a0.fld 3),r4]).bind fun r5=>
 if (decide (r5.i<0))then
 ou 0 [(.int (-1))]
 else
 ou 0 [r5]):=by kernel_rfl
theorem zI6 (a0:D):z5G.F [a0]=rn (
 ou 0 [(.pair (a0.fld 0) (.pair (a0.fld 1) (.pair (a0.fld 2) (.pair (a0.fld 3) .unit))))]):=by kernel_rfl
theorem zFb (a0:D):z1u.F [a0]=rn (
 if (makeOk 48 (a0.l.length:Int))then
 (z0Y (fun l1=>
 if (decide ((gd l1 1).i<(a0.l.length:Int)))then
 if (inb (gd l1 1).i a0.l.length)then
 (z5G.F [(gd a0.l (gd l1 1).i.toNat)]).bind fun r3=>
 if (inb (gd l1 1).i (gd l1 0).l.length)then
 ou 0 [(D.lst ((gd l1 0).l.set (gd l1 1).i.toNat r3)),(.int (IntKind.wrap .i64 ((gd l1 1).i+1)))]
 else none
 else none
 else
 ou 1 [(gd l1 0)]) [(D.lst (List.replicate (a0.l.length:Int).toNat ((.pair (.str []) (.pair (.int 0) (.pair (.int 0) (.pair (.str []) .unit)))):D))),(.int 0)]).bind fun o1=>
 sel2 o1.1 (ou 0 [(gd o1.2 0)]) fun _=>none
 else none):=by kernel_rfl
theorem zLj (a0:D):z2V.F [a0]=rn (
 (z1u.F [(a0.fld 2)]).bind fun r1=>
 ou 0 [(.pair (a0.fld 0) (.pair (a0.fld 1) (.pair r1 .unit)))]):=by kernel_rfl
theorem zLh (a0:D):z6H.F [a0]=rn (
 ou 0 [(.pair (a0.fld 0) (.pair (a0.fld 1) (.pair (a0.fld 2) (.pair (a0.fld 3) .unit))))]):=by kernel_rfl
theorem zJe (a0:D):z5k.F [a0]=rn (
 if (makeOk 32 (a0.l.length:Int))then
 (z0Y (fun l1=>
 if (decide ((gd l1 1).i<(a0.l.length:Int)))then
 if (inb (gd l1 1).i a0.l.length)then
 (z6H.F [(gd a0.l (gd l1 1).i.toNat)]).bind fun r3=>
 if (inb (gd l1 1).i (gd l1 0).l.length)then
 ou 0 [(D.lst ((gd l1 0).l.set (gd l1 1).i.toNat r3)),(.int (IntKind.wrap .i64 ((gd l1 1).i+1)))]
 else none
 else none
 else
 ou 1 [(gd l1 0)]) [(D.lst (List.replicate (a0.l.length:Int).toNat ((.pair (.int 0) (.pair (.int 0) (.pair (.int 0) (.pair (.int 0) .unit)))):D))),(.int 0)]).bind fun o1=>
 sel2 o1.1 (ou 0 [(gd o1.2 0)]) fun _=>none
 else none):=by kernel_rfl
theorem zFY (a0:D):z4k.F [a0]=rn (
 (z2V.F [(a0.fld 0)]).bind fun r1=>
 (z5k.F [(a0.fld 1)]).bind fun r2=>
 ou 0 [(.pair r1 (.pair r2 (.pair (a0.fld 2) .unit)))]):=by kernel_rfl
theorem zLg (a0:D):z3h.F [a0]=rn (
 (z1u.F [(a0.fld 2)]).bind fun r1=>
 (z1u.F [(a0.fld 3)]).bind fun r2=>
 ou 0 [(.pair (a0.fld 0) (.pair (a0.fld 1) (.pair r1 (.pair r2 .unit))))]):=by kernel_rfl
theorem zJd (a0:D):z5j.F [a0]=rn (
 if (makeOk 64 (a0.l.length:Int))then
 (z0Y (fun l1=>
 if (decide ((gd l1 1).i<(a0.l.length:Int)))then
 if (inb (gd l1 1).i a0.l.length)then
 (z3h.F [(gd a0.l (gd l1 1).i.toNat)]).bind fun r3=>
 if (inb (gd l1 1).i (gd l1 0).l.length)then
 ou 0 [(D.lst ((gd l1 0).l.set (gd l1 1).i.toNat r3)),(.int (IntKind.wrap .i64 ((gd l1 1).i+1)))]
 else none
 else none
 else
 ou 1 [(gd l1 0)]) [(D.lst (List.replicate (a0.l.length:Int).toNat ((.pair (.int 0) (.pair (.int 0) (.pair (D.lst []) (.pair (D.lst []) .unit)))):D))),(.int 0)]).bind fun o1=>
 sel2 o1.1 (ou 0 [(gd o1.2 0)]) fun _=>none
 else none):=by kernel_rfl
theorem zFZ (a0:D):z4l.F [a0]=rn (
 (z5j.F [(a0.fld 2)]).bind fun r1=>
 ou 0 [(.pair (a0.fld 0) (.pair (a0.fld 1) (.pair r1 .unit)))]):=by kernel_rfl
theorem zLi (a0:D):z5P.F [a0]=rn (
 (z2V.F [(a0.fld 0)]).bind fun r1=>
 (z2V.F [(a0.fld 1)]).bind fun r2=>
 ou 0 [(.pair r1 (.pair r2 .unit))]):=by kernel_rfl
theorem zJf (a0:D):z5l.F [a0]=rn (
 if (makeOk 96 (a0.l.length:Int))then
 (z0Y (fun l1=>
 if (decide ((gd l1 1).i<(a0.l.length:Int)))then
 if (inb (gd l1 1).i a0.l.length)then
 (z5P.F [(gd a0.l (gd l1 1).i.toNat)]).bind fun r3=>
 if (inb (gd l1 1).i (gd l1 0).l.length)then
 ou 0 [(D.lst ((gd l1 0).l.set (gd l1 1).i.toNat r3)),(.int (IntKind.wrap .i64 ((gd l1 1).i+1)))]
 else none
 else none
 else
 ou 1 [(gd l1 0)]) [(D.lst (List.replicate (a0.l.length:Int).toNat ((.pair (.pair (.str []) (.pair (.int 0) (.pair (D.lst []) .unit))) (.pair (.pair (.str []) (.pair (.int 0) (.pair (D.lst []) .unit))) .unit)):D))),(.int 0)]).bind fun o1=>
 sel2 o1.1 (ou 0 [(gd o1.2 0)]) fun _=>none
 else none):=by kernel_rfl
theorem zI5 (a0:D):z4C.F [a0]=rn (
 (z2V.F [(a0.fld 2)]).bind fun r1=>
 (z3h.F [(a0.fld 3)]).bind fun r2=>
 ou 0 [(.pair (a0.fld 0) (.pair (a0.fld 1) (.pair r1 (.pair r2 .unit))))]):=by kernel_rfl
theorem zFa (a0:D):z4m.F [a0]=rn (
 if (makeOk 128 (a0.l.length:Int))then
 (z0Y (fun l1=>
 if (decide ((gd l1 1).i<(a0.l.length:Int)))then
 if (inb (gd l1 1).i a0.l.length)then
 (z4C.F [(gd a0.l (gd l1 1).i.toNat)]).bind fun r3=>
 if (inb (gd l1 1).i (gd l1 0).l.length)then
 ou 0 [(D.lst ((gd l1 0).l.set (gd l1 1).i.toNat r3)),(.int (IntKind.wrap .i64 ((gd l1 1).i+1)))]
 else none
 else none
 else
 ou 1 [(gd l1 0)]) [(D.lst (List.replicate (a0.l.length:Int).toNat ((.pair (.int 0) (.pair (.bool false) (.pair (.pair (.str []) (.pair (.int 0) (.pair (D.lst []) .unit))) (.pair (.pair (.int 0) (.pair (.int 0) (.pair (D.lst []) (.pair (D.lst []) .unit)))) .unit)))):D))),(.int 0)]).bind fun o1=>
 sel2 o1.1 (ou 0 [(gd o1.2 0)]) fun _=>none
 else none):=by kernel_rfl
theorem zJg (a0:D):z36.F [a0]=rn (
 (z4k.F [(a0.fld 0)]).bind fun r1=>
 (z4l.F [(a0.fld 1)]).bind fun r2=>
 (z5l.F [(a0.fld 2)]).bind fun r3=>
 (z4m.F [(a0.fld 3)]).bind fun r4=>
 ou 0 [(.pair r1 (.pair r2 (.pair r3 (.pair r4 .unit))))]):=by kernel_rfl
theorem zPF (a0 a1 a2:D):z0f.F [a0,a1,a2]=rn (
 (if (decide (a0.i >= a1.i))then
 ou 0 [(.bool (decide (a0.i<=a2.i)))]
 else
 ou 0 [(.bool false)]).bind fun o3=>
 sel2 o3.1 (ou 0 [(gd o3.2 0)]) fun _=>none):=by kernel_rfl
theorem zLm (a0 a1:D):z6K.F [a0,a1]=rn (
 ((z0f.F [a0,(.int 0),(.int 100)]).bind fun r2=>
 if r2.b then
 (z0f.F [a1,(.int 1),(.int 1000)]).bind fun r3=>
 ou 0 [r3]
 else
 ou 0 [(.bool false)]).bind fun o2=>
 sel2 o2.1 (ou 0 [(gd o2.2 0)]) fun _=>none):=by kernel_rfl
theorem zID (a0:D):z5J.F [a0]=rn (
 (z0f.F [a0,(.int 0),(.int 4294967295)]).bind fun r1=>
 ou 0 [r1]):=by kernel_rfl
theorem zJl (a0 a1:D):z39.F [a0,a1]=rn (
 (z0Y (fun l2=>
 if (decide ((gd l2 2).i<(a0.s.length:Int)))then
 (if (inb (gd l2 2).i a0.s.length)then
 if ((byteAt a0.s (gd l2 2).i.toNat:Int)==a1.i)then
 if (slOk (gd l2 1).i (gd l2 2).i (a0.s.length:Int))then
 if (appOk 16 (gd l2 0).l ((.str ((a0.s.take (gd l2 2).i.toNat).drop (gd l2 1).i.toNat))::([]:List D)))then
 ou 0 [(D.lst ((gd l2 0).l++((.str ((a0.s.take (gd l2 2).i.toNat).drop (gd l2 1).i.toNat))::([]:List D)))),(.int (IntKind.wrap .i64 ((gd l2 2).i+1)))]
 else none
 else none
 else
 ou 0 [(gd l2 0),(gd l2 1)]
 else none).bind fun o5=>
 sel2 o5.1 (ou 0 [(gd o5.2 0),(gd o5.2 1),(.int (IntKind.wrap .i64 ((gd l2 2).i+1)))]) fun _=>none
 else
 ou 1 [(gd l2 0),(gd l2 1)]) [(D.lst []),(.int 0),(.int 0)]).bind fun o2=>
 sel2 o2.1 (if (slOk (gd o2.2 1).i (a0.s.length:Int) (a0.s.length:Int))then
 if (appOk 16 (gd o2.2 0).l ((.str ((a0.s.take (a0.s.length:Int).toNat).drop (gd o2.2 1).i.toNat))::([]:List D)))then
 ou 0 [(D.lst ((gd o2.2 0).l++((.str ((a0.s.take (a0.s.length:Int).toNat).drop (gd o2.2 1).i.toNat))::([]:List D))))]
 else none
 else none) fun _=>none):=by kernel_rfl
theorem zJk (a0:D):z3r.F [a0]=rn (
 if (a0.s==([42]:List UInt8))then
 ou 0 [(.bool true)]
 else
 (z0Y (fun l1=>
 if (decide ((gd l1 0).i<(a0.s.length:Int)))then
 if (inb (gd l1 0).i a0.s.length)then
 (if (decide ((byteAt a0.s (gd l1 0).i.toNat:Int) >= 97))then
 if (decide ((byteAt a0.s (gd l1 0).i.toNat:Int)<=122))then
 ou 0 [(.bool (!true))]
 else
 if (decide ((byteAt a0.s (gd l1 0).i.toNat:Int) >= 48))then
 if (decide ((byteAt a0.s (gd l1 0).i.toNat:Int)<=57))then
 ou 0 [(.bool (!true))]
 else
 if ((byteAt a0.s (gd l1 0).i.toNat:Int)==45)then
 ou 0 [(.bool (!true))]
 else
 ou 0 [(.bool (!((byteAt a0.s (gd l1 0).i.toNat:Int)==95)))]
 else
 if ((byteAt a0.s (gd l1 0).i.toNat:Int)==45)then
 ou 0 [(.bool (!true))]
 else
 ou 0 [(.bool (!((byteAt a0.s (gd l1 0).i.toNat:Int)==95)))]
 else
 if (decide ((byteAt a0.s (gd l1 0).i.toNat:Int) >= 48))then
 if (decide ((byteAt a0.s (gd l1 0).i.toNat:Int)<=57))then
 ou 0 [(.bool (!true))]
 else
 if ((byteAt a0.s (gd l1 0).i.toNat:Int)==45)then
 ou 0 [(.bool (!true))]
 else
 ou 0 [(.bool (!((byteAt a0.s (gd l1 0).i.toNat:Int)==95)))]
 else
 if ((byteAt a0.s (gd l1 0).i.toNat:Int)==45)then
 ou 0 [(.bool (!true))]
 else
 ou 0 [(.bool (!((byteAt a0.s (gd l1 0).i.toNat:Int)==95)))]).bind fun o2=>
 sel2 o2.1 (if (gd o2.2 0).b then
 ou 1 []
 else
 ou 0 [(.int (IntKind.wrap .i64 ((gd l1 0).i+1)))]) fun _=>none
 else none
 else
 ou 2 []) [(.int 0)]).bind fun o1=>
 sel2 o1.1 (ou 0 [(.bool false)]) fun n4=>
 sel2 n4 ((z0f.F [(.int (a0.s.length:Int)),(.int 1),(.int 20)]).bind fun r1=>
 ou 0 [r1]) fun _=>none):=by kernel_rfl
theorem zIA (a0:D):z0t.F [a0]=rn (
 if (a0.s==([]:List UInt8))then
 ou 0 [(.pair (D.lst []) (.pair (.bool true) .unit))]
 else
 (z39.F [a0,(.int 46)]).bind fun r1=>
 (z0Y (fun l2=>
 if (decide ((gd l2 0).i<(r1.l.length:Int)))then
 if (inb (gd l2 0).i r1.l.length)then
 (z3r.F [(gd r1.l (gd l2 0).i.toNat)]).bind fun r3=>
 if (!r3.b)then
 ou 1 []
 else
 ou 0 [(.int (IntKind.wrap .i64 ((gd l2 0).i+1)))]
 else none
 else
 ou 2 []) [(.int 0)]).bind fun o2=>
 sel2 o2.1 (ou 0 [(.pair (D.lst []) (.pair (.bool false) .unit))]) fun n4=>
 sel2 n4 ((if (decide ((a0.s.length:Int)<=60))then
 ou 0 [r1,(.bool (decide ((r1.l.length:Int)<=8)))]
 else
 ou 0 [r1,(.bool false)]).bind fun o2=>
 sel2 o2.1 (ou 0 [(.pair (gd o2.2 0) (.pair (gd o2.2 1) .unit))]) fun _=>none) fun _=>none):=by kernel_rfl
theorem zLp (a0:D):z4O.F [a0]=rn (
 (z0t.F [a0]).bind fun r1=>
 (z0Y (fun l2=>
 if (decide ((gd l2 1).i<((r1.fld 0).l.length:Int)))then
 (if (inb (gd l2 1).i (r1.fld 0).l.length)then
 if (gd l2 0).b then
 ou 0 [(.bool (!((gd (r1.fld 0).l (gd l2 1).i.toNat).s==([42]:List UInt8))))]
 else
 ou 0 [(.bool false)]
 else none).bind fun o4=>
 sel2 o4.1 (ou 0 [(gd o4.2 0),(.int (IntKind.wrap .i64 ((gd l2 1).i+1)))]) fun _=>none
 else
 ou 1 [(gd l2 0)]) [(r1.fld 1),(.int 0)]).bind fun o2=>
 sel2 o2.1 (ou 0 [(gd o2.2 0)]) fun _=>none):=by kernel_rfl
theorem zNY (a0:D):z38.F [a0]=rn (
 ((z0f.F [(.int (a0.s.length:Int)),(.int 1),(.int 10)]).bind fun r1=>
 if (!r1.b)then
 ou 0 [(.bool true)]
 else
 if (inb 0 a0.s.length)then
 if ((byteAt a0.s 0:Int)==48)then
 ou 0 [(.bool (decide ((a0.s.length:Int) > 1)))]
 else
 ou 0 [(.bool false)]
 else none).bind fun o1=>
 sel2 o1.1 (if (gd o1.2 0).b then
 ou 0 [(.int (-1))]
 else
 (z0Y (fun l2=>
 if (decide ((gd l2 1).i<(a0.s.length:Int)))then
 (if (inb (gd l2 1).i a0.s.length)then
 if (decide ((byteAt a0.s (gd l2 1).i.toNat:Int)<48))then
 ou 0 [(.bool true)]
 else
 ou 0 [(.bool (decide ((byteAt a0.s (gd l2 1).i.toNat:Int) > 57)))]
 else none).bind fun o4=>
 sel2 o4.1 (if (gd o4.2 0).b then
 ou 1 [(.int (-1))]
 else
 if (inb (gd l2 1).i a0.s.length)then
 ou 0 [(.int (IntKind.wrap .i64 ((IntKind.wrap .i64 (10*(gd l2 0).i))+(IntKind.wrap .i64 (IntKind.wrap .u8 ((byteAt a0.s (gd l2 1).i.toNat:Int)-48)))))),(.int (IntKind.wrap .i64 ((gd l2 1).i+1)))]
 else none) fun _=>none
 else
 ou 2 [(gd l2 0)]) [(.int 0),(.int 0)]).bind fun o2=>
 sel2 o2.1 (ou 0 [(gd o2.2 0)]) fun n6=>
 sel2 n6 (ou 0 [(gd o2.2 0)]) fun _=>none) fun _=>none):=by kernel_rfl
theorem z7e (a0 a1:D):z1M.F [a0,a1]=rn (
 if (makeOk 1 a1.i)then
 (z0Y (fun l2=>
 if (decide ((gd l2 2).i >= 0))then
 if (inb (gd l2 2).i (gd l2 1).l.length)then
 if (decide (0<=8))then
 ou 0 [(.int ((gd l2 0).i.fdiv (2 ^ min 8 (IntKind.bits .i64)))),(D.lst ((gd l2 1).l.set (gd l2 2).i.toNat (.int (IntKind.wrap .u8 (gd l2 0).i)))),(.int (IntKind.wrap .i64 ((gd l2 2).i-1)))]
 else none
 else none
 else
 ou 1 [(gd l2 1)]) [a0,(D.lst (List.replicate a1.i.toNat ((.int 0):D))),(.int (IntKind.wrap .i64 (a1.i-1)))]).bind fun o2=>
 sel2 o2.1 (ou 0 [(.str (z0l (gd o2.2 0).l))]) fun _=>none
 else none):=by kernel_rfl
theorem zIC (a0:D):z4F.F [a0]=rn (
 (z0t.F [a0]).bind fun r1=>
 (z0Y (fun l2=>
 if (decide ((gd l2 1).i<((r1.fld 0).l.length:Int)))then
 (if (inb (gd l2 1).i (r1.fld 0).l.length)then
 if (gd l2 0).b then
 ou 0 [(.bool (!((gd (r1.fld 0).l (gd l2 1).i.toNat).s==([42]:List UInt8))))]
 else
 ou 0 [(.bool false)]
 else none).bind fun o4=>
 sel2 o4.1 (ou 0 [(gd o4.2 0),(.int (IntKind.wrap .i64 ((gd l2 1).i+1)))]) fun _=>none
 else
 ou 1 [(gd l2 0)]) [(r1.fld 1),(.int 0)]).bind fun o2=>
 sel2 o2.1 ((if (gd o2.2 0).b then
 ou 0 [(.bool (!(a0.s==([]:List UInt8))))]
 else
 ou 0 [(.bool false)]).bind fun o3=>
 sel2 o3.1 (ou 0 [(gd o3.2 0)]) fun _=>none) fun _=>none):=by kernel_rfl
theorem zAM (a0:D):z3s.F [a0]=rn (
 (z0t.F [a0]).bind fun r1=>
 (z0Y (fun l2=>
 if (decide ((gd l2 1).i<((r1.fld 0).l.length:Int)))then
 if (inb (gd l2 1).i (r1.fld 0).l.length)then
 if (catOk (z0l ((.int (IntKind.wrap .u8 ((gd (r1.fld 0).l (gd l2 1).i.toNat).s.length:Int)))::([]:List D))) (gd (r1.fld 0).l (gd l2 1).i.toNat).s)then
 if (catOk (gd l2 0).s ((z0l ((.int (IntKind.wrap .u8 ((gd (r1.fld 0).l (gd l2 1).i.toNat).s.length:Int)))::([]:List D)))++(gd (r1.fld 0).l (gd l2 1).i.toNat).s))then
 ou 0 [(.str ((gd l2 0).s++((z0l ((.int (IntKind.wrap .u8 ((gd (r1.fld 0).l (gd l2 1).i.toNat).s.length:Int)))::([]:List D)))++(gd (r1.fld 0).l (gd l2 1).i.toNat).s))),(.int (IntKind.wrap .i64 ((gd l2 1).i+1)))]
 else none
 else none
 else none
 else
 ou 1 [(gd l2 0)]) [(D.str []),(.int 0)]).bind fun o2=>
 sel2 o2.1 (if (catOk (gd o2.2 0).s ([0]:List UInt8))then
 ou 0 [(.str ((gd o2.2 0).s++([0]:List UInt8)))]
 else none) fun _=>none):=by kernel_rfl
theorem z6o (a0 a1:D):z1Q.F [a0,a1]=rn (
 if (a0.i==1)then
 (z39.F [a1,(.int 46)]).bind fun r2=>
 (z0Y (fun l3=>
 if (decide ((gd l3 1).i<(r2.l.length:Int)))then
 if (inb (gd l3 1).i r2.l.length)then
 (z38.F [(gd r2.l (gd l3 1).i.toNat)]).bind fun r5=>
 (z0f.F [r5,(.int 0),(.int 255)]).bind fun r6=>
 if (!r6.b)then
 ou 1 []
 else
 (z1M.F [r5,(.int 1)]).bind fun r7=>
 if (catOk (gd l3 0).s r7.s)then
 ou 0 [(.str ((gd l3 0).s++r7.s)),(.int (IntKind.wrap .i64 ((gd l3 1).i+1)))]
 else none
 else none
 else
 ou 2 [(gd l3 0)]) [(D.str []),(.int 0)]).bind fun o3=>
 sel2 o3.1 (ou 0 [(.pair (D.str []) (.pair (.bool false) .unit))]) fun n4=>
 sel2 n4 (ou 0 [(.pair (gd o3.2 0) (.pair (.bool ((r2.l.length:Int)==4)) .unit))]) fun _=>none
 else
 (if (a0.i==2)then
 ou 0 [(.bool (a0.i==2))]
 else
 ou 0 [(.bool (a0.i==5))]).bind fun o2=>
 sel2 o2.1 (if (gd o2.2 0).b then
 (z4F.F [a1]).bind fun r3=>
 if (!r3.b)then
 ou 0 [(.pair (D.str []) (.pair (.bool false) .unit))]
 else
 (z3s.F [a1]).bind fun r4=>
 ou 0 [(.pair r4 (.pair (.bool true) .unit))]
 else
 if (a0.i==6)then
 (z38.F [a1]).bind fun r3=>
 (z1M.F [r3,(.int 4)]).bind fun r4=>
 (z0f.F [r3,(.int 0),(.int 4294967295)]).bind fun r5=>
 ou 0 [(.pair r4 (.pair r5 .unit))]
 else
 if (a0.i==15)then
 (z39.F [a1,(.int 32)]).bind fun r3=>
 (if ((r3.l.length:Int) != 2)then
 ou 0 [(.bool true)]
 else
 if (inb 0 r3.l.length)then
 (z38.F [(gd r3.l 0)]).bind fun r4=>
 (z0f.F [r4,(.int 0),(.int 65535)]).bind fun r5=>
 if (!r5.b)then
 ou 0 [(.bool true)]
 else
 if (inb 1 r3.l.length)then
 (z4F.F [(gd r3.l 1)]).bind fun r6=>
 ou 0 [(.bool (!r6.b))]
 else none
 else none).bind fun o4=>
 sel2 o4.1 (if (gd o4.2 0).b then
 ou 0 [(.pair (D.str []) (.pair (.bool false) .unit))]
 else
 if (inb 0 r3.l.length)then
 (z38.F [(gd r3.l 0)]).bind fun r5=>
 (z1M.F [r5,(.int 2)]).bind fun r6=>
 if (inb 1 r3.l.length)then
 (z3s.F [(gd r3.l 1)]).bind fun r7=>
 if (catOk r6.s r7.s)then
 ou 0 [(.pair (.str (r6.s++r7.s)) (.pair (.bool true) .unit))]
 else none
 else none
 else none) fun _=>none
 else
 if (a0.i==16)then
 (z0Y (fun l3=>
 if (decide ((gd l3 0).i<(a1.s.length:Int)))then
 (if (inb (gd l3 0).i a1.s.length)then
 if (decide ((byteAt a1.s (gd l3 0).i.toNat:Int)<32))then
 ou 0 [(.bool true)]
 else
 ou 0 [(.bool (decide ((byteAt a1.s (gd l3 0).i.toNat:Int) > 126)))]
 else none).bind fun o4=>
 sel2 o4.1 (if (gd o4.2 0).b then
 ou 1 [(D.str []),(.bool false)]
 else
 ou 0 [(.int (IntKind.wrap .i64 ((gd l3 0).i+1)))]) fun _=>none
 else
 ou 2 []) [(.int 0)]).bind fun o3=>
 sel2 o3.1 (ou 0 [(.pair (gd o3.2 0) (.pair (gd o3.2 1) .unit))]) fun n14=>
 sel2 n14 (if (catOk (z0l ((.int (IntKind.wrap .u8 (a1.s.length:Int)))::([]:List D))) a1.s)then
 ou 0 [(.pair (.str ((z0l ((.int (IntKind.wrap .u8 (a1.s.length:Int)))::([]:List D)))++a1.s)) (.pair (.bool (decide ((a1.s.length:Int)<=30))) .unit))]
 else none) fun _=>none
 else
 ou 0 [(.pair (D.str []) (.pair (.bool false) .unit))]) fun _=>none):=by kernel_rfl
theorem zI8 (a0:D):z5H.F [a0]=rn (
 (z0t.F [a0]).bind fun r1=>
 ou 0 [(r1.fld 1)]):=by kernel_rfl
theorem zDi (a0:D):z4D.F [a0]=rn (
 (z1Q.F [(a0.fld 1),(a0.fld 3)]).bind fun r1=>
 (if (r1.fld 1).b then
 (z5H.F [(a0.fld 0)]).bind fun r2=>
 if r2.b then
 (z0f.F [(a0.fld 2),(.int 0),(.int 100000)]).bind fun r3=>
 ou 0 [r3]
 else
 ou 0 [(.bool false)]
 else
 ou 0 [(.bool false)]).bind fun o2=>
 sel2 o2.1 (ou 0 [(gd o2.2 0)]) fun _=>none):=by kernel_rfl
theorem zFh (a0 a1:D):z4q.F [a0,a1]=rn (
 (z0t.F [a0]).bind fun r2=>
 (z0t.F [a1]).bind fun r3=>
 (z0Y (fun l4=>
 (if (decide ((gd l4 0).i<=((r2.fld 0).l.length:Int)))then
 ou 0 [(.bool (decide ((gd l4 0).i<=((r3.fld 0).l.length:Int))))]
 else
 ou 0 [(.bool false)]).bind fun o5=>
 sel2 o5.1 (if (gd o5.2 0).b then
 if (inb (IntKind.wrap .i64 (((r2.fld 0).l.length:Int)-(gd l4 0).i)) (r2.fld 0).l.length)then
 if (inb (IntKind.wrap .i64 (((r3.fld 0).l.length:Int)-(gd l4 0).i)) (r3.fld 0).l.length)then
 if (Op.bytesLess (gd (r2.fld 0).l (IntKind.wrap .i64 (((r2.fld 0).l.length:Int)-(gd l4 0).i)).toNat).s (gd (r3.fld 0).l (IntKind.wrap .i64 (((r3.fld 0).l.length:Int)-(gd l4 0).i)).toNat).s)then
 ou 1 [(.int (-1))]
 else
 if (!(Op.bytesLess (gd (r2.fld 0).l (IntKind.wrap .i64 (((r2.fld 0).l.length:Int)-(gd l4 0).i)).toNat).s (gd (r3.fld 0).l (IntKind.wrap .i64 (((r3.fld 0).l.length:Int)-(gd l4 0).i)).toNat).s||(gd (r2.fld 0).l (IntKind.wrap .i64 (((r2.fld 0).l.length:Int)-(gd l4 0).i)).toNat).s==(gd (r3.fld 0).l (IntKind.wrap .i64 (((r3.fld 0).l.length:Int)-(gd l4 0).i)).toNat).s))then
 ou 1 [(.int 1)]
 else
 ou 0 [(.int (IntKind.wrap .i64 ((gd l4 0).i+1)))]
 else none
 else none
 else
 ou 2 []) fun _=>none) [(.int 1)]).bind fun o4=>
 sel2 o4.1 (ou 0 [(gd o4.2 0)]) fun n2=>
 sel2 n2 (if (decide (((r2.fld 0).l.length:Int)<((r3.fld 0).l.length:Int)))then
 ou 0 [(.int (-1))]
 else
 if (decide (((r2.fld 0).l.length:Int) > ((r3.fld 0).l.length:Int)))then
 ou 0 [(.int 1)]
 else
 ou 0 [(.int 0)]) fun _=>none):=by kernel_rfl
theorem zLo (a0:D):z4N.F [a0]=rn (
 if a0.b then
 ou 0 [(.int (-1))]
 else
 ou 0 [(.int 1)]):=by kernel_rfl
theorem zFi (a0 a1:D):z18.F [a0,a1]=rn (
 (z4q.F [(a0.fld 0),(a1.fld 0)]).bind fun r2=>
 if (r2.i != 0)then
 ou 0 [r2]
 else
 (z1Q.F [(a0.fld 1),(a0.fld 3)]).bind fun r3=>
 (z1Q.F [(a1.fld 1),(a1.fld 3)]).bind fun r4=>
 if ((a0.fld 1).i != (a1.fld 1).i)then
 (z4N.F [(.bool (decide ((a0.fld 1).i<(a1.fld 1).i)))]).bind fun r5=>
 ou 0 [r5]
 else
 if (!((r3.fld 0).s==(r4.fld 0).s))then
 (z4N.F [(.bool (Op.bytesLess (r3.fld 0).s (r4.fld 0).s))]).bind fun r5=>
 ou 0 [r5]
 else
 if ((a0.fld 2).i != (a1.fld 2).i)then
 (z4N.F [(.bool (decide ((a0.fld 2).i<(a1.fld 2).i)))]).bind fun r5=>
 ou 0 [r5]
 else
 ou 0 [(.int 0)]):=by kernel_rfl
theorem zLq (a0:D):z3l.F [a0]=rn (
 (z0Y (fun l1=>
 if (decide ((gd l1 0).i<(a0.l.length:Int)))then
 if (inb (gd l1 0).i a0.l.length)then
 ((z4D.F [(gd a0.l (gd l1 0).i.toNat)]).bind fun r2=>
 if (!r2.b)then
 ou 0 [(.bool true)]
 else
 if (decide ((gd l1 0).i > 0))then
 if (inb (IntKind.wrap .i64 ((gd l1 0).i-1)) a0.l.length)then
 (z18.F [(gd a0.l (IntKind.wrap .i64 ((gd l1 0).i-1)).toNat),(gd a0.l (gd l1 0).i.toNat)]).bind fun r3=>
 ou 0 [(.bool (decide (r3.i >= 0)))]
 else none
 else
 ou 0 [(.bool false)]).bind fun o2=>
 sel2 o2.1 (if (gd o2.2 0).b then
 ou 1 []
 else
 ou 0 [(.int (IntKind.wrap .i64 ((gd l1 0).i+1)))]) fun _=>none
 else none
 else
 ou 2 []) [(.int 0)]).bind fun o1=>
 sel2 o1.1 (ou 0 [(.bool false)]) fun n2=>
 sel2 n2 (ou 0 [(.bool (decide ((a0.l.length:Int)<=40)))]) fun _=>none):=by kernel_rfl
theorem zJj (a0 a1:D):z1e.F [a0,a1]=rn (
 (if (a1.s==([]:List UInt8))then
 ou 0 [(.bool true)]
 else
 if (a0.s==a1.s)then
 ou 0 [(.bool true)]
 else
 if (decide ((IntKind.wrap .i64 ((a0.s.length:Int)-(a1.s.length:Int))) > 0))then
 if (slOk (IntKind.wrap .i64 ((a0.s.length:Int)-(a1.s.length:Int))) (a0.s.length:Int) (a0.s.length:Int))then
 if (((a0.s.take (a0.s.length:Int).toNat).drop (IntKind.wrap .i64 ((a0.s.length:Int)-(a1.s.length:Int))).toNat)==a1.s)then
 if (inb (IntKind.wrap .i64 ((IntKind.wrap .i64 ((a0.s.length:Int)-(a1.s.length:Int)))-1)) a0.s.length)then
 ou 0 [(.bool ((byteAt a0.s (IntKind.wrap .i64 ((IntKind.wrap .i64 ((a0.s.length:Int)-(a1.s.length:Int)))-1)).toNat:Int)==46))]
 else none
 else
 ou 0 [(.bool false)]
 else none
 else
 ou 0 [(.bool false)]).bind fun o2=>
 sel2 o2.1 (ou 0 [(gd o2.2 0)]) fun _=>none):=by kernel_rfl
theorem zNc (a0 a1 a2:D):z3k.F [a0,a1,a2]=rn (
 (z0Y (fun l3=>
 if (decide ((gd l3 0).i<(a0.l.length:Int)))then
 if (inb (gd l3 0).i a0.l.length)then
 (if (((gd a0.l (gd l3 0).i.toNat).fld 0).s==a1.s)then
 ou 0 [(.bool (((gd a0.l (gd l3 0).i.toNat).fld 1).i==a2.i))]
 else
 ou 0 [(.bool false)]).bind fun o4=>
 sel2 o4.1 (if (gd o4.2 0).b then
 ou 1 [(.bool true)]
 else
 ou 0 [(.int (IntKind.wrap .i64 ((gd l3 0).i+1)))]) fun _=>none
 else none
 else
 ou 2 []) [(.int 0)]).bind fun o3=>
 sel2 o3.1 (ou 0 [(gd o3.2 0)]) fun n2=>
 sel2 n2 (ou 0 [(.bool false)]) fun _=>none):=by kernel_rfl
theorem zIB (a0:D):z4E.F [a0]=rn (
 (z0Y (fun l1=>
 if (decide ((gd l1 0).i<(a0.s.length:Int)))then
 if (inb (gd l1 0).i a0.s.length)then
 if ((byteAt a0.s (gd l1 0).i.toNat:Int)==46)then
 if (slOk (IntKind.wrap .i64 ((gd l1 0).i+1)) (a0.s.length:Int) (a0.s.length:Int))then
 ou 1 [(.str ((a0.s.take (a0.s.length:Int).toNat).drop (IntKind.wrap .i64 ((gd l1 0).i+1)).toNat))]
 else none
 else
 ou 0 [(.int (IntKind.wrap .i64 ((gd l1 0).i+1)))]
 else none
 else
 ou 2 []) [(.int 0)]).bind fun o1=>
 sel2 o1.1 (ou 0 [(gd o1.2 0)]) fun n2=>
 sel2 n2 (ou 0 [(D.str [])]) fun _=>none):=by kernel_rfl
theorem zNb (a0 a1 a2:D):z61.F [a0,a1,a2]=rn (
 (z0Y (fun l3=>
 (if (!((gd l3 0).s==a0.s))then
 (z1e.F [(gd l3 0),a0]).bind fun r6=>
 ou 0 [r6]
 else
 ou 0 [(.bool false)]).bind fun o6=>
 sel2 o6.1 (if (gd o6.2 0).b then
 ((z3k.F [a1,(gd l3 0),(.int 2)]).bind fun r7=>
 if r7.b then
 ou 0 [(gd l3 0),(.bool true)]
 else
 ou 0 [(gd l3 1),(gd l3 2)]).bind fun o7=>
 sel2 o7.1 (if ((gd l3 0).s==([]:List UInt8))then
 ou 1 [(gd o7.2 0),(gd o7.2 1)]
 else
 (z4E.F [(gd l3 0)]).bind fun r9=>
 ou 0 [r9,(gd o7.2 0),(gd o7.2 1)]) fun _=>none
 else
 ou 1 [(gd l3 1),(gd l3 2)]) fun _=>none) [a2,(D.str []),(.bool false)]).bind fun o3=>
 sel2 o3.1 (ou 0 [(.pair (gd o3.2 0) (.pair (gd o3.2 1) .unit))]) fun _=>none):=by kernel_rfl
theorem zLr (a0 a1:D):z6M.F [a0,a1]=rn (
 (z0Y (fun l2=>
 if (decide ((gd l2 1).i<(a1.l.length:Int)))then
 (if (inb (gd l2 1).i a1.l.length)then
 (z1e.F [((gd a1.l (gd l2 1).i.toNat).fld 0),a0]).bind fun r4=>
 if (!r4.b)then
 ou 1 [(.int 1)]
 else
 if (((gd a1.l (gd l2 1).i.toNat).fld 1).i==6)then
 if (!(((gd a1.l (gd l2 1).i.toNat).fld 0).s==a0.s))then
 ou 0 [(.int (IntKind.wrap .i64 ((IntKind.wrap .i64 ((gd l2 0).i+1))+1)))]
 else
 ou 0 [(.int (IntKind.wrap .i64 ((gd l2 0).i+1)))]
 else
 ou 0 [(gd l2 0)]
 else none).bind fun o4=>
 sel2 o4.1 (ou 0 [(gd o4.2 0),(.int (IntKind.wrap .i64 ((gd l2 1).i+1)))]) fun n8=>
 sel2 n8 (ou 1 [(gd o4.2 0)]) fun _=>none
 else
 ou 2 [(gd l2 0)]) [(.int 0),(.int 0)]).bind fun o2=>
 sel2 o2.1 (ou 0 [(gd o2.2 0)]) fun n2=>
 sel2 n2 (if ((gd o2.2 0).i != 1)then
 ou 0 [(.int 2)]
 else
 (z0Y (fun l3=>
 if (decide ((gd l3 0).i<(a1.l.length:Int)))then
 if (inb (gd l3 0).i a1.l.length)then
 (if (decide ((gd l3 0).i > 0))then
 if (inb (IntKind.wrap .i64 ((gd l3 0).i-1)) a1.l.length)then
 if (((gd a1.l (IntKind.wrap .i64 ((gd l3 0).i-1)).toNat).fld 0).s==((gd a1.l (gd l3 0).i.toNat).fld 0).s)then
 if (((gd a1.l (IntKind.wrap .i64 ((gd l3 0).i-1)).toNat).fld 1).i==((gd a1.l (gd l3 0).i.toNat).fld 1).i)then
 if (((gd a1.l (IntKind.wrap .i64 ((gd l3 0).i-1)).toNat).fld 2).i != ((gd a1.l (gd l3 0).i.toNat).fld 2).i)then
 ou 0 [(.bool true)]
 else
 ou 0 [(.bool (((gd a1.l (IntKind.wrap .i64 ((gd l3 0).i-1)).toNat).fld 3).s==((gd a1.l (gd l3 0).i.toNat).fld 3).s))]
 else
 ou 0 [(.bool false)]
 else
 ou 0 [(.bool false)]
 else none
 else
 ou 0 [(.bool false)]).bind fun o4=>
 sel2 o4.1 (if (gd o4.2 0).b then
 ou 1 [(.int 3)]
 else
 ou 0 [(.int (IntKind.wrap .i64 ((gd l3 0).i+1)))]) fun _=>none
 else none
 else
 ou 2 []) [(.int 0)]).bind fun o3=>
 sel2 o3.1 (ou 0 [(gd o3.2 0)]) fun n6=>
 sel2 n6 ((z0Y (fun l3=>
 if (decide ((gd l3 0).i<(a1.l.length:Int)))then
 if (inb (gd l3 0).i a1.l.length)then
 if (slOk 0 (gd l3 0).i (a1.l.length:Int))then
 (z0Y (fun l4=>
 if (decide ((gd l4 0).i<(((a1.l.take (gd l3 0).i.toNat).drop 0).length:Int)))then
 if (inb (gd l4 0).i ((a1.l.take (gd l3 0).i.toNat).drop 0).length)then
 (if (((gd (D.lst ((a1.l.take (gd l3 0).i.toNat).drop 0)).l (gd l4 0).i.toNat).fld 0).s==((gd a1.l (gd l3 0).i.toNat).fld 0).s)then
 if (((gd (D.lst ((a1.l.take (gd l3 0).i.toNat).drop 0)).l (gd l4 0).i.toNat).fld 1).i==5)then
 ou 0 [(.bool true)]
 else
 ou 0 [(.bool (((gd a1.l (gd l3 0).i.toNat).fld 1).i==5))]
 else
 ou 0 [(.bool false)]).bind fun o5=>
 sel2 o5.1 (if (gd o5.2 0).b then
 ou 1 [(.int 4)]
 else
 ou 0 [(.int (IntKind.wrap .i64 ((gd l4 0).i+1)))]) fun _=>none
 else none
 else
 ou 2 []) [(.int 0)]).bind fun o4=>
 sel2 o4.1 (ou 1 [(gd o4.2 0)]) fun n14=>
 sel2 n14 (ou 0 [(.int (IntKind.wrap .i64 ((gd l3 0).i+1)))]) fun _=>none
 else none
 else none
 else
 ou 2 []) [(.int 0)]).bind fun o3=>
 sel2 o3.1 (ou 0 [(gd o3.2 0)]) fun n8=>
 sel2 n8 ((z3k.F [a1,a0,(.int 5)]).bind fun r3=>
 if r3.b then
 ou 0 [(.int 5)]
 else
 (z0Y (fun l4=>
 if (decide ((gd l4 0).i<(a1.l.length:Int)))then
 if (inb (gd l4 0).i a1.l.length)then
 (z61.F [a0,a1,((gd a1.l (gd l4 0).i.toNat).fld 0)]).bind fun r5=>
 (if (r5.fld 1).b then
 if (((gd a1.l (gd l4 0).i.toNat).fld 1).i != 1)then
 if (((gd a1.l (gd l4 0).i.toNat).fld 1).i != 2)then
 ou 0 [(.bool true)]
 else
 ou 0 [(.bool (!(((gd a1.l (gd l4 0).i.toNat).fld 0).s==(r5.fld 0).s)))]
 else
 ou 0 [(.bool false)]
 else
 ou 0 [(.bool false)]).bind fun o6=>
 sel2 o6.1 (if (gd o6.2 0).b then
 ou 1 [(.int 6)]
 else
 ou 0 [(.int (IntKind.wrap .i64 ((gd l4 0).i+1)))]) fun _=>none
 else none
 else
 ou 2 []) [(.int 0)]).bind fun o4=>
 sel2 o4.1 (ou 0 [(gd o4.2 0)]) fun n12=>
 sel2 n12 (ou 0 [(.int 0)]) fun _=>none) fun _=>none) fun _=>none) fun _=>none):=by kernel_rfl
theorem zLk (a0 a1:D):z6I.F [a0,a1]=rn (
 ((z4O.F [a0]).bind fun r2=>
 if (!r2.b)then
 ou 0 [(.bool true)]
 else
 (z3l.F [a1]).bind fun r3=>
 ou 0 [(.bool (!r3.b))]).bind fun o2=>
 sel2 o2.1 (if (gd o2.2 0).b then
 ou 0 [(.int 9)]
 else
 (z6M.F [a0,a1]).bind fun r3=>
 ou 0 [r3]) fun _=>none):=by kernel_rfl
theorem zNZ (k:Nat) (a0:D):z4r (k+1) [a0]=rn (
 if (decide (a0.i<10))then
 ou 0 [(.str (z0l ((.int (IntKind.wrap .u8 (IntKind.wrap .i64 (48+a0.i))))::([]:List D))))]
 else
 if (10 != 0)then
 (z4r k [(.int (IntKind.wrap .i64 (a0.i.tdiv 10)))]).bind fun r1=>
 if (catOk r1.s (z0l ((.int (IntKind.wrap .u8 (IntKind.wrap .i64 (48+(a0.i.tmod 10)))))::([]:List D))))then
 ou 0 [(.str (r1.s++(z0l ((.int (IntKind.wrap .u8 (IntKind.wrap .i64 (48+(a0.i.tmod 10)))))::([]:List D)))))]
 else none
 else none):=by kernel_rfl
theorem zNe (a0:D):z62.F [a0]=rn (
 if (4294967296 != 0)then
 (z7m.F [(.int ((a0.fld 1).i.tmod 4294967296))]).bind fun r1=>
 ou 0 [r1]
 else none):=by kernel_rfl
theorem zI9 (a0:D):z11.F [a0]=rn (
 ((z0f.F [(a0.fld 1),(.int 0),(.int 1152921504606846976)]).bind fun r1=>
 if (!r1.b)then
 ou 0 [(.bool true)]
 else
 (z6I.F [(a0.fld 0),(a0.fld 2)]).bind fun r2=>
 ou 0 [(.bool (r2.i != 0))]).bind fun o1=>
 sel2 o1.1 (if (gd o1.2 0).b then
 ou 0 [(.bool false)]
 else
 (z0Y (fun l2=>
 if (decide ((gd l2 0).i<((a0.fld 2).l.length:Int)))then
 if (inb (gd l2 0).i (a0.fld 2).l.length)then
 (if (((gd (a0.fld 2).l (gd l2 0).i.toNat).fld 1).i==6)then
 (z62.F [a0]).bind fun r3=>
 ou 0 [(.bool (!(((gd (a0.fld 2).l (gd l2 0).i.toNat).fld 3).s==r3.s)))]
 else
 ou 0 [(.bool false)]).bind fun o3=>
 sel2 o3.1 (if (gd o3.2 0).b then
 ou 1 [(.bool false)]
 else
 ou 0 [(.int (IntKind.wrap .i64 ((gd l2 0).i+1)))]) fun _=>none
 else none
 else
 ou 2 []) [(.int 0)]).bind fun o2=>
 sel2 o2.1 (ou 0 [(gd o2.2 0)]) fun n6=>
 sel2 n6 (ou 0 [(.bool true)]) fun _=>none) fun _=>none):=by kernel_rfl
theorem zCO (a0:D):z3i.F [a0]=rn (
 (z0Y (fun l1=>
 if (decide ((gd l1 0).i<((a0.fld 1).l.length:Int)))then
 if (inb (gd l1 0).i (a0.fld 1).l.length)then
 ((z6K.F [((gd (a0.fld 1).l (gd l1 0).i.toNat).fld 0),((gd (a0.fld 1).l (gd l1 0).i.toNat).fld 1)]).bind fun r2=>
 if (!r2.b)then
 ou 0 [(.bool true)]
 else
 (z0f.F [((gd (a0.fld 1).l (gd l1 0).i.toNat).fld 2),(.int 0),(.int 4)]).bind fun r3=>
 if (!r3.b)then
 ou 0 [(.bool true)]
 else
 (z5J.F [((gd (a0.fld 1).l (gd l1 0).i.toNat).fld 3)]).bind fun r4=>
 if (!r4.b)then
 ou 0 [(.bool true)]
 else
 if (decide ((gd l1 0).i > 0))then
 if (inb (IntKind.wrap .i64 ((gd l1 0).i-1)) (a0.fld 1).l.length)then
 ou 0 [(.bool (decide (((gd (a0.fld 1).l (IntKind.wrap .i64 ((gd l1 0).i-1)).toNat).fld 0).i >= ((gd (a0.fld 1).l (gd l1 0).i.toNat).fld 0).i)))]
 else none
 else
 ou 0 [(.bool false)]).bind fun o2=>
 sel2 o2.1 (if (gd o2.2 0).b then
 ou 1 []
 else
 ou 0 [(.int (IntKind.wrap .i64 ((gd l1 0).i+1)))]) fun _=>none
 else none
 else
 ou 2 []) [(.int 0)]).bind fun o1=>
 sel2 o1.1 (ou 0 [(.bool false)]) fun n2=>
 sel2 n2 (((z11.F [(a0.fld 0)]).bind fun r1=>
 if r1.b then
 (z0f.F [(a0.fld 2),(.int 0),(.int 1000000)]).bind fun r2=>
 if r2.b then
 ou 0 [(.bool (decide (((a0.fld 1).l.length:Int)<=8)))]
 else
 ou 0 [(.bool false)]
 else
 ou 0 [(.bool false)]).bind fun o1=>
 sel2 o1.1 (ou 0 [(gd o1.2 0)]) fun _=>none) fun _=>none):=by kernel_rfl
theorem zFj (a0:D):z1w.F [a0]=rn (
 (z0f.F [a0,(.int 0),(.int 1152921504606846976)]).bind fun r1=>
 ou 0 [r1]):=by kernel_rfl
theorem zNg (a0 a1:D):z1b.F [a0,a1]=rn (
 (z0Y (fun l2=>
 if (decide ((gd l2 0).i<(a0.l.length:Int)))then
 if (inb (gd l2 0).i a0.l.length)then
 if (D.beq (gd a0.l (gd l2 0).i.toNat) a1)then
 ou 1 [(.bool true)]
 else
 ou 0 [(.int (IntKind.wrap .i64 ((gd l2 0).i+1)))]
 else none
 else
 ou 2 []) [(.int 0)]).bind fun o2=>
 sel2 o2.1 (ou 0 [(gd o2.2 0)]) fun n2=>
 sel2 n2 (ou 0 [(.bool false)]) fun _=>none):=by kernel_rfl
theorem zI7 (a0:D):z1W.F [a0]=rn (
 ((z1w.F [(a0.fld 0)]).bind fun r1=>
 if (!r1.b)then
 ou 0 [(.bool true)]
 else
 (z1w.F [(a0.fld 1)]).bind fun r2=>
 if (!r2.b)then
 ou 0 [(.bool true)]
 else
 if ((a0.fld 0).i==(a0.fld 1).i)then
 ou 0 [(.bool true)]
 else
 (z3l.F [(a0.fld 2)]).bind fun r3=>
 if (!r3.b)then
 ou 0 [(.bool true)]
 else
 (z3l.F [(a0.fld 3)]).bind fun r4=>
 ou 0 [(.bool (!r4.b))]).bind fun o1=>
 sel2 o1.1 (if (gd o1.2 0).b then
 ou 0 [(.bool false)]
 else
 (z0Y (fun l2=>
 if (decide ((gd l2 0).i<((a0.fld 2).l.length:Int)))then
 if (inb (gd l2 0).i (a0.fld 2).l.length)then
 (z1b.F [(a0.fld 3),(gd (a0.fld 2).l (gd l2 0).i.toNat)]).bind fun r3=>
 if r3.b then
 ou 1 [(.bool false)]
 else
 ou 0 [(.int (IntKind.wrap .i64 ((gd l2 0).i+1)))]
 else none
 else
 ou 2 []) [(.int 0)]).bind fun o2=>
 sel2 o2.1 (ou 0 [(gd o2.2 0)]) fun n6=>
 sel2 n6 (ou 0 [(.bool true)]) fun _=>none) fun _=>none):=by kernel_rfl
theorem zCP (a0:D):z1h.F [a0]=rn (
 ((z4O.F [(a0.fld 0)]).bind fun r1=>
 if (!r1.b)then
 ou 0 [(.bool true)]
 else
 (z1w.F [(a0.fld 1)]).bind fun r2=>
 if (!r2.b)then
 ou 0 [(.bool true)]
 else
 ou 0 [(.bool (decide (((a0.fld 2).l.length:Int) > 12)))]).bind fun o1=>
 sel2 o1.1 (if (gd o1.2 0).b then
 ou 0 [(.bool false)]
 else
 (z0Y (fun l2=>
 if (decide ((gd l2 1).i<((a0.fld 2).l.length:Int)))then
 if (inb (gd l2 1).i (a0.fld 2).l.length)then
 ((z1W.F [(gd (a0.fld 2).l (gd l2 1).i.toNat)]).bind fun r4=>
 if (!r4.b)then
 ou 0 [(.bool true)]
 else
 if (((gd (a0.fld 2).l (gd l2 1).i.toNat).fld 0).i != (gd l2 0).i)then
 ou 0 [(.bool true)]
 else
 ou 0 [(.bool (decide (((gd (a0.fld 2).l (gd l2 1).i.toNat).fld 1).i<=((gd (a0.fld 2).l (gd l2 1).i.toNat).fld 0).i)))]).bind fun o4=>
 sel2 o4.1 (if (gd o4.2 0).b then
 ou 1 [(.bool false)]
 else
 ou 0 [((gd (a0.fld 2).l (gd l2 1).i.toNat).fld 1),(.int (IntKind.wrap .i64 ((gd l2 1).i+1)))]) fun _=>none
 else none
 else
 ou 2 []) [(a0.fld 1),(.int 0)]).bind fun o2=>
 sel2 o2.1 (ou 0 [(gd o2.2 0)]) fun n6=>
 sel2 n6 (ou 0 [(.bool true)]) fun _=>none) fun _=>none):=by kernel_rfl
theorem zLs (a0:D):z6N.F [a0]=rn (
 if (decide (((a0.fld 2).l.length:Int) > 0))then
 if (inb (IntKind.wrap .i64 (((a0.fld 2).l.length:Int)-1)) (a0.fld 2).l.length)then
 ou 0 [((gd (a0.fld 2).l (IntKind.wrap .i64 (((a0.fld 2).l.length:Int)-1)).toNat).fld 1)]
 else none
 else
 ou 0 [(a0.fld 1)]):=by kernel_rfl
theorem zJi (a0 a1:D):z3q.F [a0,a1]=rn (
 ((z11.F [a1]).bind fun r2=>
 if r2.b then
 if ((a1.fld 0).s==([101,120,46,99,111,109]:List UInt8))then
 ou 0 [(.bool (decide ((a1.fld 1).i<=(((a0.fld 0).fld 0).fld 1).i)))]
 else
 ou 0 [(.bool false)]
 else
 ou 0 [(.bool false)]).bind fun o2=>
 sel2 o2.1 (ou 0 [(gd o2.2 0)]) fun _=>none):=by kernel_rfl
theorem zFf (a0:D):z4o.F [a0]=rn (
 (if ((a0.fld 0).i==0)then
 if ((a0.fld 1).i==0)then
 if (((a0.fld 2).l.length:Int)==0)then
 ou 0 [(.bool (((a0.fld 3).l.length:Int)==0))]
 else
 ou 0 [(.bool false)]
 else
 ou 0 [(.bool false)]
 else
 ou 0 [(.bool false)]).bind fun o1=>
 sel2 o1.1 (ou 0 [(gd o1.2 0)]) fun _=>none):=by kernel_rfl
theorem zFg (a0:D):z4p.F [a0]=rn (
 (if ((a0.fld 0).s==([]:List UInt8))then
 if ((a0.fld 1).i==0)then
 ou 0 [(.bool (((a0.fld 2).l.length:Int)==0))]
 else
 ou 0 [(.bool false)]
 else
 ou 0 [(.bool false)]).bind fun o1=>
 sel2 o1.1 (ou 0 [(gd o1.2 0)]) fun _=>none):=by kernel_rfl
theorem zFe (a0:D):z4n.F [a0]=rn (
 ((z3i.F [(a0.fld 0)]).bind fun r1=>
 if (!r1.b)then
 ou 0 [(.bool true)]
 else
 if (!((((a0.fld 0).fld 0).fld 0).s==([101,120,46,99,111,109]:List UInt8)))then
 ou 0 [(.bool true)]
 else
 (z1h.F [(a0.fld 1)]).bind fun r2=>
 if (!r2.b)then
 ou 0 [(.bool true)]
 else
 if (!(((a0.fld 1).fld 0).s==([101,120,46,99,111,109]:List UInt8)))then
 ou 0 [(.bool true)]
 else
 (z6N.F [(a0.fld 1)]).bind fun r3=>
 if (r3.i != (((a0.fld 0).fld 0).fld 1).i)then
 ou 0 [(.bool true)]
 else
 (z0f.F [(.int ((a0.fld 2).l.length:Int)),(.int 1),(.int 3)]).bind fun r4=>
 if (!r4.b)then
 ou 0 [(.bool true)]
 else
 ou 0 [(.bool (decide (((a0.fld 3).l.length:Int) > 12)))]).bind fun o1=>
 sel2 o1.1 (if (gd o1.2 0).b then
 ou 0 [(.bool false)]
 else
 (z0Y (fun l2=>
 if (decide ((gd l2 0).i<((a0.fld 2).l.length:Int)))then
 if (inb (gd l2 0).i (a0.fld 2).l.length)then
 ((z3q.F [a0,((gd (a0.fld 2).l (gd l2 0).i.toNat).fld 0)]).bind fun r3=>
 if (!r3.b)then
 ou 0 [(.bool true)]
 else
 (z3q.F [a0,((gd (a0.fld 2).l (gd l2 0).i.toNat).fld 1)]).bind fun r4=>
 ou 0 [(.bool (!r4.b))]).bind fun o3=>
 sel2 o3.1 (if (gd o3.2 0).b then
 ou 1 [(.bool false)]
 else
 ou 0 [(.int (IntKind.wrap .i64 ((gd l2 0).i+1)))]) fun _=>none
 else none
 else
 ou 2 []) [(.int 0)]).bind fun o2=>
 sel2 o2.1 (ou 0 [(gd o2.2 0)]) fun n6=>
 sel2 n6 ((z0Y (fun l2=>
 if (decide ((gd l2 0).i<((a0.fld 3).l.length:Int)))then
 if (inb (gd l2 0).i (a0.fld 3).l.length)then
 (z0f.F [((gd (a0.fld 3).l (gd l2 0).i.toNat).fld 0),(.int 0),(.int (IntKind.wrap .i64 (((a0.fld 2).l.length:Int)-1)))]).bind fun r3=>
 if (!r3.b)then
 ou 1 [(.bool false)]
 else
 (if ((gd (a0.fld 3).l (gd l2 0).i.toNat).fld 1).b then
 (z3q.F [a0,((gd (a0.fld 3).l (gd l2 0).i.toNat).fld 2)]).bind fun r4=>
 if (!r4.b)then
 ou 0 [(.bool true)]
 else
 (z4o.F [((gd (a0.fld 3).l (gd l2 0).i.toNat).fld 3)]).bind fun r5=>
 ou 0 [(.bool (!r5.b))]
 else
 ou 0 [(.bool false)]).bind fun o4=>
 sel2 o4.1 (if (gd o4.2 0).b then
 ou 1 [(.bool false)]
 else
 (if (!((gd (a0.fld 3).l (gd l2 0).i.toNat).fld 1).b)then
 (z4p.F [((gd (a0.fld 3).l (gd l2 0).i.toNat).fld 2)]).bind fun r5=>
 if (!r5.b)then
 ou 0 [(.bool true)]
 else
 (z1W.F [((gd (a0.fld 3).l (gd l2 0).i.toNat).fld 3)]).bind fun r6=>
 if (!r6.b)then
 ou 0 [(.bool true)]
 else
 if (decide ((((gd (a0.fld 3).l (gd l2 0).i.toNat).fld 3).fld 1).i > (((a0.fld 0).fld 0).fld 1).i))then
 ou 0 [(.bool true)]
 else
 ou 0 [(.bool (decide ((((gd (a0.fld 3).l (gd l2 0).i.toNat).fld 3).fld 0).i > (((gd (a0.fld 3).l (gd l2 0).i.toNat).fld 3).fld 1).i)))]
 else
 ou 0 [(.bool false)]).bind fun o5=>
 sel2 o5.1 (if (gd o5.2 0).b then
 ou 1 [(.bool false)]
 else
 ou 0 [(.int (IntKind.wrap .i64 ((gd l2 0).i+1)))]) fun _=>none) fun _=>none
 else none
 else
 ou 2 []) [(.int 0)]).bind fun o2=>
 sel2 o2.1 (ou 0 [(gd o2.2 0)]) fun n8=>
 sel2 n8 (ou 0 [(.bool true)]) fun _=>none) fun _=>none) fun _=>none):=by kernel_rfl
theorem zNd (a0:D):z1N.F [a0]=rn (
 if (appOk 48 ([]:List D) (a0.fld 2).l)then
 ou 0 [(a0.setFld 2 (D.lst (([]:List D)++(a0.fld 2).l)))]
 else none):=by kernel_rfl
theorem zLl (a0:D):z6J.F [a0]=rn (
 (z1N.F [(a0.fld 0)]).bind fun r1=>
 if (appOk 32 ([]:List D) (a0.fld 1).l)then
 ou 0 [((a0.setFld 0 r1).setFld 1 (D.lst (([]:List D)++(a0.fld 1).l)))]
 else none):=by kernel_rfl
theorem zNh (a0:D):z4J.F [a0]=rn (
 if (appOk 48 ([]:List D) (a0.fld 2).l)then
 if (appOk 48 ([]:List D) (a0.fld 3).l)then
 ou 0 [((a0.setFld 2 (D.lst (([]:List D)++(a0.fld 2).l))).setFld 3 (D.lst (([]:List D)++(a0.fld 3).l)))]
 else none
 else none):=by kernel_rfl
theorem zJm (a0:D):z2W.F [a0]=rn (
 (z0Y (fun l1=>
 if (decide ((gd l1 1).i<(a0.l.length:Int)))then
 if (inb (gd l1 1).i a0.l.length)then
 (z4J.F [(gd a0.l (gd l1 1).i.toNat)]).bind fun r3=>
 if (appOk 64 (gd l1 0).l (r3::([]:List D)))then
 ou 0 [(D.lst ((gd l1 0).l++(r3::([]:List D)))),(.int (IntKind.wrap .i64 ((gd l1 1).i+1)))]
 else none
 else none
 else
 ou 1 [(gd l1 0)]) [(D.lst []),(.int 0)]).bind fun o1=>
 sel2 o1.1 (ou 0 [(gd o1.2 0)]) fun _=>none):=by kernel_rfl
theorem zB7 (a0:D):z2J.F [a0]=rn (
 (z1N.F [(a0.fld 2)]).bind fun r1=>
 (z4J.F [(a0.fld 3)]).bind fun r2=>
 ou 0 [((a0.setFld 2 r1).setFld 3 r2)]):=by kernel_rfl
theorem zLn (a0:D):z6L.F [a0]=rn (
 (z6J.F [(a0.fld 0)]).bind fun r1=>
 (z2W.F [((a0.fld 1).fld 2)]).bind fun r2=>
 (z0Y (fun l3=>
 if (decide ((gd l3 1).i<((a0.fld 2).l.length:Int)))then
 if (inb (gd l3 1).i (a0.fld 2).l.length)then
 (z1N.F [((gd (a0.fld 2).l (gd l3 1).i.toNat).fld 0)]).bind fun r5=>
 (z1N.F [((gd (a0.fld 2).l (gd l3 1).i.toNat).fld 1)]).bind fun r6=>
 if (appOk 96 (gd l3 0).l ((.pair r5 (.pair r6 .unit))::([]:List D)))then
 ou 0 [(D.lst ((gd l3 0).l++((.pair r5 (.pair r6 .unit))::([]:List D)))),(.int (IntKind.wrap .i64 ((gd l3 1).i+1)))]
 else none
 else none
 else
 ou 1 [(gd l3 0)]) [(D.lst []),(.int 0)]).bind fun o3=>
 sel2 o3.1 ((z0Y (fun l4=>
 if (decide ((gd l4 1).i<((a0.fld 3).l.length:Int)))then
 if (inb (gd l4 1).i (a0.fld 3).l.length)then
 (z2J.F [(gd (a0.fld 3).l (gd l4 1).i.toNat)]).bind fun r6=>
 if (appOk 128 (gd l4 0).l (r6::([]:List D)))then
 ou 0 [(D.lst ((gd l4 0).l++(r6::([]:List D)))),(.int (IntKind.wrap .i64 ((gd l4 1).i+1)))]
 else none
 else none
 else
 ou 1 [(gd l4 0)]) [(D.lst []),(.int 0)]).bind fun o4=>
 sel2 o4.1 (ou 0 [((((a0.setFld 0 r1).setFld 1 ((a0.fld 1).setFld 2 r2)).setFld 2 (gd o3.2 0)).setFld 3 (gd o4.2 0))]) fun _=>none) fun _=>none):=by kernel_rfl
theorem zFd (a0 a1:D):z3X.F [a0,a1]=rn (
 (z1h.F [a0]).bind fun r2=>
 if (!r2.b)then
 ou 0 [(.pair (D.lst []) (.pair (.bool false) .unit))]
 else
 if (a1.i==(a0.fld 1).i)then
 (z2W.F [(a0.fld 2)]).bind fun r3=>
 ou 0 [(.pair r3 (.pair (.bool true) .unit))]
 else
 (z0Y (fun l3=>
 if (decide ((gd l3 0).i<((a0.fld 2).l.length:Int)))then
 if (inb (gd l3 0).i (a0.fld 2).l.length)then
 if (((gd (a0.fld 2).l (gd l3 0).i.toNat).fld 1).i==a1.i)then
 if (slOk (IntKind.wrap .i64 ((gd l3 0).i+1)) ((a0.fld 2).l.length:Int) ((a0.fld 2).l.length:Int))then
 (z2W.F [(D.lst (((a0.fld 2).l.take ((a0.fld 2).l.length:Int).toNat).drop (IntKind.wrap .i64 ((gd l3 0).i+1)).toNat))]).bind fun r4=>
 ou 1 [r4,(.bool true)]
 else none
 else
 ou 0 [(.int (IntKind.wrap .i64 ((gd l3 0).i+1)))]
 else none
 else
 ou 2 []) [(.int 0)]).bind fun o3=>
 sel2 o3.1 (ou 0 [(.pair (gd o3.2 0) (.pair (gd o3.2 1) .unit))]) fun n6=>
 sel2 n6 (ou 0 [(.pair (D.lst []) (.pair (.bool false) .unit))]) fun _=>none):=by kernel_rfl
theorem zLt (a0 a1:D):z6O.F [a0,a1]=rn (
 (z0Y (fun l2=>
 if (decide ((gd l2 1).i<(a0.l.length:Int)))then
 (if (inb (gd l2 1).i a0.l.length)then
 (z1b.F [a1,(gd a0.l (gd l2 1).i.toNat)]).bind fun r4=>
 if (!r4.b)then
 if (appOk 48 (gd l2 0).l ((gd a0.l (gd l2 1).i.toNat)::([]:List D)))then
 ou 0 [(D.lst ((gd l2 0).l++((gd a0.l (gd l2 1).i.toNat)::([]:List D))))]
 else none
 else
 ou 0 [(gd l2 0)]
 else none).bind fun o4=>
 sel2 o4.1 (ou 0 [(gd o4.2 0),(.int (IntKind.wrap .i64 ((gd l2 1).i+1)))]) fun _=>none
 else
 ou 1 [(gd l2 0)]) [(D.lst []),(.int 0)]).bind fun o2=>
 sel2 o2.1 (ou 0 [(gd o2.2 0)]) fun _=>none):=by kernel_rfl
theorem zNa (a0 a1:D):z5I.F [a0,a1]=rn (
 (z0Y (fun l2=>
 (if (decide ((gd l2 0).i<(a0.l.length:Int)))then
 if (inb (gd l2 0).i a0.l.length)then
 (z18.F [(gd a0.l (gd l2 0).i.toNat),a1]).bind fun r3=>
 ou 0 [(.bool (decide (r3.i<0)))]
 else none
 else
 ou 0 [(.bool false)]).bind fun o3=>
 sel2 o3.1 (if (gd o3.2 0).b then
 ou 0 [(.int (IntKind.wrap .i64 ((gd l2 0).i+1)))]
 else
 ou 1 [(gd l2 0)]) fun _=>none) [(.int 0)]).bind fun o2=>
 sel2 o2.1 ((if (decide ((gd o2.2 0).i<(a0.l.length:Int)))then
 if (inb (gd o2.2 0).i a0.l.length)then
 ou 0 [(.bool (D.beq (gd a0.l (gd o2.2 0).i.toNat) a1))]
 else none
 else
 ou 0 [(.bool false)]).bind fun o3=>
 sel2 o3.1 (if (gd o3.2 0).b then
 ou 0 [a0]
 else
 if (slOk 0 (gd o2.2 0).i (a0.l.length:Int))then
 if (appOk 48 ([]:List D) ((a0.l.drop 0).take (((gd o2.2 0).i.toNat-0:Nat):Int).toNat))then
 if (appOk 48 (([]:List D)++((a0.l.drop 0).take (((gd o2.2 0).i.toNat-0:Nat):Int).toNat)) (a1::([]:List D)))then
 if (slOk (gd o2.2 0).i (a0.l.length:Int) (a0.l.length:Int))then
 if (appOk 48 ((([]:List D)++((a0.l.drop 0).take (((gd o2.2 0).i.toNat-0:Nat):Int).toNat))++(a1::([]:List D))) ((a0.l.drop (gd o2.2 0).i.toNat).take (((a0.l.length:Int).toNat-(gd o2.2 0).i.toNat:Nat):Int).toNat))then
 ou 0 [(D.lst (((([]:List D)++((a0.l.drop 0).take (((gd o2.2 0).i.toNat-0:Nat):Int).toNat))++(a1::([]:List D)))++((a0.l.drop (gd o2.2 0).i.toNat).take (((a0.l.length:Int).toNat-(gd o2.2 0).i.toNat:Nat):Int).toNat)))]
 else none
 else none
 else none
 else none
 else none) fun _=>none) fun _=>none):=by kernel_rfl
theorem zNf (a0 a1:D):z6s.F [a0,a1]=rn (
 if (appOk 48 ([]:List D) a0.l)then
 (z0Y (fun l2=>
 if (decide ((gd l2 1).i<(a1.l.length:Int)))then
 if (inb (gd l2 1).i a1.l.length)then
 (z5I.F [(gd l2 0),(gd a1.l (gd l2 1).i.toNat)]).bind fun r4=>
 ou 0 [r4,(.int (IntKind.wrap .i64 ((gd l2 1).i+1)))]
 else none
 else
 ou 1 [(gd l2 0)]) [(D.lst (([]:List D)++a0.l)),(.int 0)]).bind fun o2=>
 sel2 o2.1 (ou 0 [(gd o2.2 0)]) fun _=>none
 else none):=by kernel_rfl
theorem zFc (a0 a1:D):z1v.F [a0,a1]=rn (
 ((z11.F [a0]).bind fun r2=>
 if (!r2.b)then
 ou 0 [(.bool true)]
 else
 (z1W.F [a1]).bind fun r3=>
 if (!r3.b)then
 ou 0 [(.bool true)]
 else
 ou 0 [(.bool ((a0.fld 1).i != (a1.fld 0).i))]).bind fun o2=>
 sel2 o2.1 (if (gd o2.2 0).b then
 ou 0 [(.pair (.pair (.str []) (.pair (.int 0) (.pair (D.lst []) .unit))) (.pair (.bool false) .unit))]
 else
 (z0Y (fun l3=>
 if (decide ((gd l3 0).i<((a1.fld 2).l.length:Int)))then
 if (inb (gd l3 0).i (a1.fld 2).l.length)then
 (z1b.F [(a0.fld 2),(gd (a1.fld 2).l (gd l3 0).i.toNat)]).bind fun r4=>
 if (!r4.b)then
 ou 1 [(.pair (.str []) (.pair (.int 0) (.pair (D.lst []) .unit))),(.bool false)]
 else
 ou 0 [(.int (IntKind.wrap .i64 ((gd l3 0).i+1)))]
 else none
 else
 ou 2 []) [(.int 0)]).bind fun o3=>
 sel2 o3.1 (ou 0 [(.pair (gd o3.2 0) (.pair (gd o3.2 1) .unit))]) fun n6=>
 sel2 n6 ((z0Y (fun l3=>
 if (decide ((gd l3 0).i<((a1.fld 3).l.length:Int)))then
 if (inb (gd l3 0).i (a1.fld 3).l.length)then
 (z1b.F [(a0.fld 2),(gd (a1.fld 3).l (gd l3 0).i.toNat)]).bind fun r4=>
 if r4.b then
 ou 1 [(.pair (.str []) (.pair (.int 0) (.pair (D.lst []) .unit))),(.bool false)]
 else
 ou 0 [(.int (IntKind.wrap .i64 ((gd l3 0).i+1)))]
 else none
 else
 ou 2 []) [(.int 0)]).bind fun o3=>
 sel2 o3.1 (ou 0 [(.pair (gd o3.2 0) (.pair (gd o3.2 1) .unit))]) fun n8=>
 sel2 n8 ((z6O.F [(a0.fld 2),(a1.fld 2)]).bind fun r3=>
 (z6s.F [r3,(a1.fld 3)]).bind fun r4=>
 (z11.F [(.pair (a0.fld 0) (.pair (a1.fld 1) (.pair r4 .unit)))]).bind fun r5=>
 if (!r5.b)then
 ou 0 [(.pair (.pair (.str []) (.pair (.int 0) (.pair (D.lst []) .unit))) (.pair (.bool false) .unit))]
 else
 ou 0 [(.pair (.pair (a0.fld 0) (.pair (a1.fld 1) (.pair r4 .unit))) (.pair (.bool true) .unit))]) fun _=>none) fun _=>none) fun _=>none):=by kernel_rfl
theorem zJh (a0 a1:D):z3p.F [a0,a1]=rn (
 (z3X.F [a1,(a0.fld 1)]).bind fun r2=>
 ((z11.F [a0]).bind fun r3=>
 if (!r3.b)then
 ou 0 [(.bool true)]
 else
 if (!(r2.fld 1).b)then
 ou 0 [(.bool true)]
 else
 ou 0 [(.bool (!((a0.fld 0).s==(a1.fld 0).s)))]).bind fun o3=>
 sel2 o3.1 (if (gd o3.2 0).b then
 ou 0 [(.pair (.pair (.str []) (.pair (.int 0) (.pair (D.lst []) .unit))) (.pair (.int 0) (.pair (.bool false) .unit)))]
 else
 (z1N.F [a0]).bind fun r4=>
 (z0Y (fun l5=>
 if (decide ((gd l5 1).i<((r2.fld 0).l.length:Int)))then
 if (inb (gd l5 1).i (r2.fld 0).l.length)then
 (z1v.F [(gd l5 0),(gd (r2.fld 0).l (gd l5 1).i.toNat)]).bind fun r7=>
 if (!(r7.fld 1).b)then
 ou 1 [(.pair (.str []) (.pair (.int 0) (.pair (D.lst []) .unit))),(.int 0),(.bool false)]
 else
 ou 0 [(r7.fld 0),(.int (IntKind.wrap .i64 ((gd l5 1).i+1)))]
 else none
 else
 ou 2 [(gd l5 0)]) [r4,(.int 0)]).bind fun o5=>
 sel2 o5.1 (ou 0 [(.pair (gd o5.2 0) (.pair (gd o5.2 1) (.pair (gd o5.2 2) .unit)))]) fun n6=>
 sel2 n6 (ou 0 [(.pair (gd o5.2 0) (.pair (.int ((r2.fld 0).l.length:Int)) (.pair (.bool true) .unit)))]) fun _=>none) fun _=>none):=by kernel_rfl
theorem zCQ (a0:D):z3j.F [a0]=rn (
 (z4n.F [a0]).bind fun r1=>
 if (!r1.b)then
 ou 0 [(.pair (.pair (.pair (.pair (.str []) (.pair (.int 0) (.pair (D.lst []) .unit))) (.pair (D.lst []) (.pair (.int 0) .unit))) (.pair (.pair (.str []) (.pair (.int 0) (.pair (D.lst []) .unit))) (.pair (D.lst []) (.pair (D.lst []) .unit)))) (.pair (.int 0) (.pair (.bool false) .unit)))]
 else
 (z6L.F [a0]).bind fun r2=>
 (z0Y (fun l3=>
 if (decide ((gd l3 2).i<((r2.fld 2).l.length:Int)))then
 if (inb (gd l3 2).i ((gd l3 0).fld 2).l.length)then
 (z3p.F [((gd ((gd l3 0).fld 2).l (gd l3 2).i.toNat).fld 0),((gd l3 0).fld 1)]).bind fun r6=>
 (if (!(r6.fld 2).b)then
 (z1N.F [(((gd l3 0).fld 0).fld 0)]).bind fun r7=>
 ou 0 [r7,(.int 1)]
 else
 ou 0 [(r6.fld 0),(r6.fld 1)]).bind fun o7=>
 sel2 o7.1 (ou 0 [((gd l3 0).setFld 2 (D.lst (upd ((gd l3 0).fld 2).l (gd l3 2).i.toNat 0 (gd o7.2 0)))),(.int (IntKind.wrap .i64 ((gd l3 1).i+(gd o7.2 1).i))),(.int (IntKind.wrap .i64 ((gd l3 2).i+1)))]) fun _=>none
 else none
 else
 ou 1 [(gd l3 0),(gd l3 1)]) [(r2.setFld 3 (D.lst [])),(.int 0),(.int 0)]).bind fun o3=>
 sel2 o3.1 (ou 0 [(.pair (gd o3.2 0) (.pair (gd o3.2 1) (.pair (.bool true) .unit)))]) fun _=>none):=by kernel_rfl
theorem zLY (a0 a1 a2:D):z0g.F [a0,a1,a2]=rn (
 (if (decide (a0.i >= a1.i))then
 ou 0 [(.bool (decide (a0.i<=a2.i)))]
 else
 ou 0 [(.bool false)]).bind fun o3=>
 sel2 o3.1 (ou 0 [(gd o3.2 0)]) fun _=>none):=by kernel_rfl
theorem zFF (a0:D):z1P.F [a0]=rn (
 (z0g.F [a0,(.int 0),(.int 1152921504606846976)]).bind fun r1=>
 ou 0 [r1]):=by kernel_rfl
theorem zHu (a0:D):z1V.F [a0]=rn (
 if (a0.s==([]:List UInt8))then
 ou 0 [(D.lst [])]
 else
 (z2d.F [a0,(D.str [46])]).bind fun r1=>
 ou 0 [r1]):=by kernel_rfl
theorem zJQ (a0:D):z5a.F [a0]=rn (
 if (a0.s==([42]:List UInt8))then
 ou 0 [(.bool true)]
 else
 ((z0g.F [(.int (a0.s.length:Int)),(.int 1),(.int 20)]).bind fun r1=>
 if r1.b then
 (z4w.F [a0,(D.str [97,98,99,100,101,102,103,104,105,106,107,108,109,110,111,112,113,114,115,116,117,118,119,120,121,122,48,49,50,51,52,53,54,55,56,57,45,95])]).bind fun r2=>
 ou 0 [(.bool (r2.s==([]:List UInt8)))]
 else
 ou 0 [(.bool false)]).bind fun o1=>
 sel2 o1.1 (ou 0 [(gd o1.2 0)]) fun _=>none):=by kernel_rfl
theorem zDd (a0:D):z3D.F [a0]=rn (
 (z5a.F [a0]).bind fun r1=>
 ou 0 [(.bool (!r1.b))]):=by kernel_rfl
theorem z3S (a0 a1:D):z0c.F [a0,a1]=rn (
 (z0Y (fun l2=>
 if (decide ((gd l2 0).i<(a0.l.length:Int)))then
 if (inb (gd l2 0).i a0.l.length)then
 (z3D.F [(gd a0.l (gd l2 0).i.toNat)]).bind fun r3=>
 if r3.b then
 ou 1 [(gd l2 0)]
 else
 ou 0 [(.int (IntKind.wrap .i64 ((gd l2 0).i+1)))]
 else none
 else
 ou 2 []) [(.int 0)]).bind fun o2=>
 sel2 o2.1 (ou 0 [(gd o2.2 0)]) fun n2=>
 sel2 n2 (ou 0 [(.int (-1))]) fun _=>none):=by kernel_rfl
theorem z3G (a0 a1:D):z0Z.F [a0,a1]=rn (
 (z0c.F [a0,a1]).bind fun r2=>
 ou 0 [(.bool (decide (r2.i >= 0)))]):=by kernel_rfl
theorem zHl (a0:D):z1K.F [a0]=rn (
 if (decide ((a0.s.length:Int) > 60))then
 ou 0 [(.bool false)]
 else
 (z1V.F [a0]).bind fun r1=>
 (if (decide ((r1.l.length:Int)<=8))then
 (z0Z.F [r1,.unit]).bind fun r2=>
 ou 0 [(.bool (!r2.b))]
 else
 ou 0 [(.bool false)]).bind fun o2=>
 sel2 o2.1 (ou 0 [(gd o2.2 0)]) fun _=>none):=by kernel_rfl
theorem zLW (a0:D):z6E.F [a0]=rn (
 ((z1K.F [a0]).bind fun r1=>
 if r1.b then
 (z1U.F [a0,(D.str [42])]).bind fun r2=>
 ou 0 [(.bool (!r2.b))]
 else
 ou 0 [(.bool false)]).bind fun o1=>
 sel2 o1.1 (ou 0 [(gd o1.2 0)]) fun _=>none):=by kernel_rfl
theorem zHv (a0 a1:D):z1f.F [a0,a1]=rn (
 (z4v.F [a0]).bind fun r2=>
 (if (!(r2.fld 1).b)then
 (z0g.F [(r2.fld 0),(.int 0),a1]).bind fun r3=>
 if r3.b then
 (z3A.F [(r2.fld 0)]).bind fun r4=>
 ou 0 [(r2.fld 0),(.bool (r4.s==a0.s))]
 else
 ou 0 [(r2.fld 0),(.bool false)]
 else
 ou 0 [(r2.fld 0),(.bool false)]).bind fun o3=>
 sel2 o3.1 (ou 0 [(.pair (gd o3.2 0) (.pair (gd o3.2 1) .unit))]) fun _=>none):=by kernel_rfl
theorem zDf (a0 a1:D):z3T.F [a0,a1]=rn (
 (z0Y (fun l2=>
 if (decide ((gd l2 1).i >= 0))then
 if (decide (0<=(IntKind.wrap .i64 (8*(gd l2 1).i))))then
 if (appOk 1 (gd l2 0).l ((.int (IntKind.wrap .u8 (a0.i.fdiv (2 ^ min (IntKind.wrap .i64 (8*(gd l2 1).i)).toNat (IntKind.bits .i64)))))::([]:List D)))then
 ou 0 [(D.lst ((gd l2 0).l++((.int (IntKind.wrap .u8 (a0.i.fdiv (2 ^ min (IntKind.wrap .i64 (8*(gd l2 1).i)).toNat (IntKind.bits .i64)))))::([]:List D)))),(.int (IntKind.wrap .i64 ((gd l2 1).i-1)))]
 else none
 else none
 else
 ou 1 [(gd l2 0)]) [(D.lst []),(.int (IntKind.wrap .i64 (a1.i-1)))]).bind fun o2=>
 sel2 o2.1 (ou 0 [(.str (z0l (gd o2.2 0).l))]) fun _=>none):=by kernel_rfl
theorem zHt (a0:D):z45.F [a0]=rn (
 (if (!(a0.s==([]:List UInt8)))then
 (z1K.F [a0]).bind fun r1=>
 if r1.b then
 (z1U.F [a0,(D.str [42])]).bind fun r2=>
 ou 0 [(.bool (!r2.b))]
 else
 ou 0 [(.bool false)]
 else
 ou 0 [(.bool false)]).bind fun o1=>
 sel2 o1.1 (ou 0 [(gd o1.2 0)]) fun _=>none):=by kernel_rfl
theorem z8T (a0:D):z2I.F [a0]=rn (
 (z1V.F [a0]).bind fun r1=>
 (z0Y (fun l2=>
 if (decide ((gd l2 1).i<(r1.l.length:Int)))then
 if (inb (gd l2 1).i r1.l.length)then
 if (catOk (z0l ((.int (IntKind.wrap .u8 ((gd r1.l (gd l2 1).i.toNat).s.length:Int)))::([]:List D))) (gd r1.l (gd l2 1).i.toNat).s)then
 if (catOk (gd l2 0).s ((z0l ((.int (IntKind.wrap .u8 ((gd r1.l (gd l2 1).i.toNat).s.length:Int)))::([]:List D)))++(gd r1.l (gd l2 1).i.toNat).s))then
 ou 0 [(.str ((gd l2 0).s++((z0l ((.int (IntKind.wrap .u8 ((gd r1.l (gd l2 1).i.toNat).s.length:Int)))::([]:List D)))++(gd r1.l (gd l2 1).i.toNat).s))),(.int (IntKind.wrap .i64 ((gd l2 1).i+1)))]
 else none
 else none
 else none
 else
 ou 1 [(gd l2 0)]) [(D.str []),(.int 0)]).bind fun o2=>
 sel2 o2.1 (ou 0 [(gd o2.2 0)]) fun _=>none):=by kernel_rfl
theorem zC9 (a0:D):z2r.F [a0]=rn (
 (if (decide (a0.i<32))then
 ou 0 [(.bool true)]
 else
 ou 0 [(.bool (decide (a0.i > 126)))]).bind fun o1=>
 sel2 o1.1 (ou 0 [(gd o1.2 0)]) fun _=>none):=by kernel_rfl
theorem z3x (a0 a1:D):z0e.F [a0,a1]=rn (
 (z0Y (fun l2=>
 if (decide ((gd l2 0).i<(a0.l.length:Int)))then
 if (inb (gd l2 0).i a0.l.length)then
 (z2r.F [(gd a0.l (gd l2 0).i.toNat)]).bind fun r3=>
 if r3.b then
 ou 1 [(gd l2 0)]
 else
 ou 0 [(.int (IntKind.wrap .i64 ((gd l2 0).i+1)))]
 else none
 else
 ou 2 []) [(.int 0)]).bind fun o2=>
 sel2 o2.1 (ou 0 [(gd o2.2 0)]) fun n2=>
 sel2 n2 (ou 0 [(.int (-1))]) fun _=>none):=by kernel_rfl
theorem z3R (a0 a1:D):z0b.F [a0,a1]=rn (
 (z0e.F [a0,a1]).bind fun r2=>
 ou 0 [(.bool (decide (r2.i >= 0)))]):=by kernel_rfl
theorem z5v (a0 a1:D):z17.F [a0,a1]=rn (
 if (a0.i==1)then
 (z2d.F [a1,(D.str [46])]).bind fun r2=>
 (z0Y (fun l3=>
 if (decide ((gd l3 1).i<(r2.l.length:Int)))then
 if (inb (gd l3 1).i r2.l.length)then
 (z1f.F [(gd r2.l (gd l3 1).i.toNat),(.int 255)]).bind fun r5=>
 (if (!(r5.fld 1).b)then
 ou 0 [(.bool true)]
 else
 ou 0 [(.bool ((r2.l.length:Int) != 4))]).bind fun o6=>
 sel2 o6.1 (if (gd o6.2 0).b then
 ou 1 []
 else
 (z3T.F [(r5.fld 0),(.int 1)]).bind fun r7=>
 if (catOk (gd l3 0).s r7.s)then
 ou 0 [(.str ((gd l3 0).s++r7.s)),(.int (IntKind.wrap .i64 ((gd l3 1).i+1)))]
 else none) fun _=>none
 else none
 else
 ou 2 [(gd l3 0)]) [(D.str []),(.int 0)]).bind fun o3=>
 sel2 o3.1 (ou 0 [(.pair (D.str []) (.pair (.bool false) .unit))]) fun n4=>
 sel2 n4 (ou 0 [(.pair (gd o3.2 0) (.pair (.bool true) .unit))]) fun _=>none
 else
 (if (a0.i==2)then
 ou 0 [(.bool (a0.i==2))]
 else
 ou 0 [(.bool (a0.i==5))]).bind fun o2=>
 sel2 o2.1 (if (gd o2.2 0).b then
 (z45.F [a1]).bind fun r3=>
 if (!r3.b)then
 ou 0 [(.pair (D.str []) (.pair (.bool false) .unit))]
 else
 (z2I.F [a1]).bind fun r4=>
 if (catOk r4.s ([0]:List UInt8))then
 ou 0 [(.pair (.str (r4.s++([0]:List UInt8))) (.pair (.bool true) .unit))]
 else none
 else
 if (a0.i==6)then
 (z1f.F [a1,(.int 4294967295)]).bind fun r3=>
 if (!(r3.fld 1).b)then
 ou 0 [(.pair (D.str []) (.pair (.bool false) .unit))]
 else
 (z3T.F [(r3.fld 0),(.int 4)]).bind fun r4=>
 ou 0 [(.pair r4 (.pair (.bool true) .unit))]
 else
 if (a0.i==15)then
 (z5Q.F [a1,(D.str [32])]).bind fun r3=>
 (z1f.F [(r3.fld 0),(.int 65535)]).bind fun r4=>
 (if (!(r4.fld 1).b)then
 ou 0 [(.bool true)]
 else
 (z45.F [(r3.fld 1)]).bind fun r5=>
 ou 0 [(.bool (!r5.b))]).bind fun o5=>
 sel2 o5.1 (if (gd o5.2 0).b then
 ou 0 [(.pair (D.str []) (.pair (.bool false) .unit))]
 else
 (z3T.F [(r4.fld 0),(.int 2)]).bind fun r6=>
 (z2I.F [(r3.fld 1)]).bind fun r7=>
 if (catOk r6.s r7.s)then
 if (catOk (r6.s++r7.s) ([0]:List UInt8))then
 ou 0 [(.pair (.str ((r6.s++r7.s)++([0]:List UInt8))) (.pair (.bool true) .unit))]
 else none
 else none) fun _=>none
 else
 if (a0.i==16)then
 (if (decide ((a1.s.length:Int) > 30))then
 ou 0 [(.bool true)]
 else
 (z0b.F [(D.lst (a1.s.map fun c=>D.int c.toNat)),.unit]).bind fun r3=>
 ou 0 [r3]).bind fun o3=>
 sel2 o3.1 (if (gd o3.2 0).b then
 ou 0 [(.pair (D.str []) (.pair (.bool false) .unit))]
 else
 (z3T.F [(.int (a1.s.length:Int)),(.int 1)]).bind fun r4=>
 if (catOk r4.s a1.s)then
 ou 0 [(.pair (.str (r4.s++a1.s)) (.pair (.bool true) .unit))]
 else none) fun _=>none
 else
 ou 0 [(.pair (D.str []) (.pair (.bool false) .unit))]) fun _=>none):=by kernel_rfl
theorem zDe (a0:D):z41.F [a0]=rn (
 ((z1K.F [(a0.fld 0)]).bind fun r1=>
 if (!r1.b)then
 ou 0 [(.bool true)]
 else
 (z0g.F [(a0.fld 2),(.int 0),(.int 100000)]).bind fun r2=>
 if (!r2.b)then
 ou 0 [(.bool true)]
 else
 ou 0 [(.bool (decide (((a0.fld 3).s.length:Int) > 100)))]).bind fun o1=>
 sel2 o1.1 (if (gd o1.2 0).b then
 ou 0 [(.bool false)]
 else
 (z17.F [(a0.fld 1),(a0.fld 3)]).bind fun r2=>
 ou 0 [(r2.fld 1)]) fun _=>none):=by kernel_rfl
theorem z6z (a0:D):z0w.F [a0]=rn (
 (z0Y (fun l1=>
 if (decide ((gd l1 1).i<(gd l1 2).i))then
 if (inb (gd l1 2).i (gd l1 0).l.length)then
 if (inb (gd l1 1).i (gd l1 0).l.length)then
 ou 0 [(D.lst (((gd l1 0).l.set (gd l1 1).i.toNat (gd (gd l1 0).l (gd l1 2).i.toNat)).set (gd l1 2).i.toNat (gd (gd l1 0).l (gd l1 1).i.toNat))),(.int (IntKind.wrap .i64 ((gd l1 1).i+1))),(.int (IntKind.wrap .i64 ((gd l1 2).i-1)))]
 else none
 else none
 else
 ou 1 [(gd l1 0)]) [a0,(.int 0),(.int (IntKind.wrap .i64 ((a0.l.length:Int)-1)))]).bind fun o1=>
 sel2 o1.1 (ou 0 [(.pair .unit (.pair (gd o1.2 0) .unit))]) fun _=>none):=by kernel_rfl
theorem zC8 (a0:D):z2q.F [a0]=rn (
 ou 0 [(.bool (!(a0.s==a0.s)))]):=by kernel_rfl
theorem zAC (a0 a1:D):z1S.F [a0,a1]=rn (
 (z2q.F [a0]).bind fun r2=>
 (z2q.F [a1]).bind fun r3=>
 if r2.b then
 if r3.b then
 ou 0 [(.int 0)]
 else
 ou 0 [(.int (-1))]
 else
 if r3.b then
 ou 0 [(.int 1)]
 else
 if (Op.bytesLess a0.s a1.s)then
 ou 0 [(.int (-1))]
 else
 if (!(Op.bytesLess a0.s a1.s||a0.s==a1.s))then
 ou 0 [(.int 1)]
 else
 ou 0 [(.int 0)]):=by kernel_rfl
theorem z6y (a0 a1:D):z19.F [a0,a1]=rn (
 (z0Y (fun l2=>
 if (decide ((gd l2 0).i<(a0.l.length:Int)))then
 if (inb (gd l2 0).i a0.l.length)then
 if (decide ((gd l2 0).i >= (a1.l.length:Int)))then
 ou 1 [(.int 1)]
 else
 if (inb (gd l2 0).i a1.l.length)then
 (z1S.F [(gd a0.l (gd l2 0).i.toNat),(gd a1.l (gd l2 0).i.toNat)]).bind fun r3=>
 if (r3.i != 0)then
 ou 1 [r3]
 else
 ou 0 [(.int (IntKind.wrap .i64 ((gd l2 0).i+1)))]
 else none
 else none
 else
 ou 2 []) [(.int 0)]).bind fun o2=>
 sel2 o2.1 (ou 0 [(gd o2.2 0)]) fun n2=>
 sel2 n2 (if (decide ((a0.l.length:Int)<(a1.l.length:Int)))then
 ou 0 [(.int (-1))]
 else
 ou 0 [(.int 0)]) fun _=>none):=by kernel_rfl
theorem zB6 (a0 a1:D):z3I.F [a0,a1]=rn (
 (z1V.F [a0]).bind fun r2=>
 (z1V.F [a1]).bind fun r3=>
 (z0w.F [r2]).bind fun r4=>
 (z0w.F [r3]).bind fun r5=>
 (z19.F [(r4.fld 1),(r5.fld 1)]).bind fun r6=>
 ou 0 [r6]):=by kernel_rfl
theorem zHj (a0:D):z40.F [a0]=rn (
 ou 0 [(.bool (a0.i != a0.i))]):=by kernel_rfl
theorem zDb (a0 a1:D):z2H.F [a0,a1]=rn (
 (z40.F [a0]).bind fun r2=>
 (z40.F [a1]).bind fun r3=>
 if r2.b then
 if r3.b then
 ou 0 [(.int 0)]
 else
 ou 0 [(.int (-1))]
 else
 if r3.b then
 ou 0 [(.int 1)]
 else
 if (decide (a0.i<a1.i))then
 ou 0 [(.int (-1))]
 else
 if (decide (a0.i > a1.i))then
 ou 0 [(.int 1)]
 else
 ou 0 [(.int 0)]):=by kernel_rfl
theorem zNX (a0:D):z56.F [a0]=rn (
 (z0Y (fun l1=>
 if (decide ((gd l1 0).i<(a0.l.length:Int)))then
 if (inb (gd l1 0).i a0.l.length)then
 if ((gd a0.l (gd l1 0).i.toNat).i != 0)then
 ou 1 [(gd a0.l (gd l1 0).i.toNat)]
 else
 ou 0 [(.int (IntKind.wrap .i64 ((gd l1 0).i+1)))]
 else none
 else
 ou 2 []) [(.int 0)]).bind fun o1=>
 sel2 o1.1 (ou 0 [(gd o1.2 0)]) fun n2=>
 sel2 n2 (ou 0 [(.int 0)]) fun _=>none):=by kernel_rfl
theorem zCF (a0 a1:D):z3a.F [a0,a1]=rn (
 (z3I.F [(a0.fld 0),(a1.fld 0)]).bind fun r2=>
 (z2H.F [(a0.fld 1),(a1.fld 1)]).bind fun r3=>
 (z56.F [(D.lst (r2::(r3::([]:List D))))]).bind fun r4=>
 ou 0 [r4]):=by kernel_rfl
theorem zFD (a0 a1:D):z3U.F [a0,a1]=rn (
 (z17.F [a0,a1]).bind fun r2=>
 if (!(r2.fld 1).b)then
 ou 0 [(D.str [])]
 else
 ou 0 [(r2.fld 0)]):=by kernel_rfl
theorem z9g (a0 a1:D):z10.F [a0,a1]=rn (
 (z3a.F [a0,a1]).bind fun r2=>
 (z3U.F [(a0.fld 1),(a0.fld 3)]).bind fun r3=>
 (z3U.F [(a1.fld 1),(a1.fld 3)]).bind fun r4=>
 (z3E.F [r3,r4]).bind fun r5=>
 (z2H.F [(a0.fld 2),(a1.fld 2)]).bind fun r6=>
 (z56.F [(D.lst (r2::(r5::(r6::([]:List D)))))]).bind fun r7=>
 ou 0 [r7]):=by kernel_rfl
theorem zFC (a0:D):z1r.F [a0]=rn (
 (z0Y (fun l1=>
 if (decide ((gd l1 0).i<(a0.l.length:Int)))then
 if (inb (gd l1 0).i a0.l.length)then
 ((z41.F [(gd a0.l (gd l1 0).i.toNat)]).bind fun r2=>
 if (!r2.b)then
 ou 0 [(.bool true)]
 else
 if (decide ((gd l1 0).i > 0))then
 if (inb (IntKind.wrap .i64 ((gd l1 0).i-1)) a0.l.length)then
 (z10.F [(gd a0.l (IntKind.wrap .i64 ((gd l1 0).i-1)).toNat),(gd a0.l (gd l1 0).i.toNat)]).bind fun r3=>
 ou 0 [(.bool (decide (r3.i >= 0)))]
 else none
 else
 ou 0 [(.bool false)]).bind fun o2=>
 sel2 o2.1 (if (gd o2.2 0).b then
 ou 1 []
 else
 ou 0 [(.int (IntKind.wrap .i64 ((gd l1 0).i+1)))]) fun _=>none
 else none
 else
 ou 2 []) [(.int 0)]).bind fun o1=>
 sel2 o1.1 (ou 0 [(.bool false)]) fun n2=>
 sel2 n2 (ou 0 [(.bool true)]) fun _=>none):=by kernel_rfl
theorem zJR (a0 a1:D):z5b.F [a0,a1]=rn (
 ((z6E.F [a0]).bind fun r2=>
 if r2.b then
 if (decide ((a1.l.length:Int)<=40))then
 (z1r.F [a1]).bind fun r3=>
 ou 0 [r3]
 else
 ou 0 [(.bool false)]
 else
 ou 0 [(.bool false)]).bind fun o2=>
 sel2 o2.1 (ou 0 [(gd o2.2 0)]) fun _=>none):=by kernel_rfl
theorem z6Z (a0 a1:D):z14.F [a0,a1]=rn (
 (if (decide ((a0.s.length:Int) >= (a1.s.length:Int)))then
 if (slOk (IntKind.wrap .i64 ((a0.s.length:Int)-(a1.s.length:Int))) (a0.s.length:Int) (a0.s.length:Int))then
 ou 0 [(.bool (((a0.s.take (a0.s.length:Int).toNat).drop (IntKind.wrap .i64 ((a0.s.length:Int)-(a1.s.length:Int))).toNat)==a1.s))]
 else none
 else
 ou 0 [(.bool false)]).bind fun o2=>
 sel2 o2.1 (ou 0 [(gd o2.2 0)]) fun _=>none):=by kernel_rfl
theorem zB8 (a0 a1:D):z3J.F [a0,a1]=rn (
 (z14.F [a0,a1]).bind fun r2=>
 ou 0 [r2]):=by kernel_rfl
theorem zJP (a0 a1:D):z3n.F [a0,a1]=rn (
 (if (a0.s==a1.s)then
 ou 0 [(.bool true)]
 else
 if (a1.s==([]:List UInt8))then
 ou 0 [(.bool true)]
 else
 if (catOk ([46]:List UInt8) a1.s)then
 (z3J.F [a0,(.str (([46]:List UInt8)++a1.s))]).bind fun r2=>
 ou 0 [r2]
 else none).bind fun o2=>
 sel2 o2.1 (ou 0 [(gd o2.2 0)]) fun _=>none):=by kernel_rfl
theorem zSq (a0 a1 a2:D):z57.F [a0,a1,a2]=rn (
 (z0Y (fun l3=>
 if (decide ((gd l3 1).i<(a0.l.length:Int)))then
 (if (inb (gd l3 1).i a0.l.length)then
 (if (((gd a0.l (gd l3 1).i.toNat).fld 0).s==a1.s)then
 if (a2.i==0)then
 ou 0 [(.bool true)]
 else
 ou 0 [(.bool (((gd a0.l (gd l3 1).i.toNat).fld 1).i==a2.i))]
 else
 ou 0 [(.bool false)]).bind fun o5=>
 sel2 o5.1 (if (gd o5.2 0).b then
 if (appOk 48 (gd l3 0).l ((gd a0.l (gd l3 1).i.toNat)::([]:List D)))then
 ou 0 [(D.lst ((gd l3 0).l++((gd a0.l (gd l3 1).i.toNat)::([]:List D))))]
 else none
 else
 ou 0 [(gd l3 0)]) fun _=>none
 else none).bind fun o5=>
 sel2 o5.1 (ou 0 [(gd o5.2 0),(.int (IntKind.wrap .i64 ((gd l3 1).i+1)))]) fun _=>none
 else
 ou 1 [(gd l3 0)]) [(D.lst []),(.int 0)]).bind fun o3=>
 sel2 o3.1 (ou 0 [(gd o3.2 0)]) fun _=>none):=by kernel_rfl
theorem zHo (a0 a1:D):z43.F [a0,a1]=rn (
 (if ((a0.fld 2).i != (a1.fld 2).i)then
 ou 0 [(.bool true)]
 else
 if ((a0.fld 3).s==(a1.fld 3).s)then
 ou 0 [(.bool (!(D.beq a0 a1)))]
 else
 ou 0 [(.bool false)]).bind fun o2=>
 sel2 o2.1 (ou 0 [(gd o2.2 0)]) fun _=>none):=by kernel_rfl
theorem z2k (a0 a1:D):z0T.F [a0,a1]=rn (
 (z0Y (fun l2=>
 if (decide ((gd l2 0).i<(a0.l.length:Int)))then
 if (inb (gd l2 0).i a0.l.length)then
 (z43.F [(gd a0.l (gd l2 0).i.toNat),(a1.fld 0)]).bind fun r3=>
 if r3.b then
 ou 1 [(gd l2 0)]
 else
 ou 0 [(.int (IntKind.wrap .i64 ((gd l2 0).i+1)))]
 else none
 else
 ou 2 []) [(.int 0)]).bind fun o2=>
 sel2 o2.1 (ou 0 [(gd o2.2 0)]) fun n2=>
 sel2 n2 (ou 0 [(.int (-1))]) fun _=>none):=by kernel_rfl
theorem z2D (a0 a1:D):z0L.F [a0,a1]=rn (
 (z0T.F [a0,a1]).bind fun r2=>
 ou 0 [(.bool (decide (r2.i >= 0)))]):=by kernel_rfl
theorem zHp (a0 a1 a2:D):z44.F [a0,a1,a2]=rn (
 (if ((a0.fld 1).i==2)then
 if (!((a0.fld 0).s==a1.s))then
 (z3n.F [(a2.fld 0),(a0.fld 0)]).bind fun r3=>
 ou 0 [r3]
 else
 ou 0 [(.bool false)]
 else
 ou 0 [(.bool false)]).bind fun o3=>
 sel2 o3.1 ((if (gd o3.2 0).b then
 if ((a2.fld 1).i != 1)then
 if ((a2.fld 1).i==2)then
 ou 0 [(.bool (!((a2.fld 0).s==(a0.fld 0).s)))]
 else
 ou 0 [(.bool (!false))]
 else
 ou 0 [(.bool false)]
 else
 ou 0 [(.bool false)]).bind fun o4=>
 sel2 o4.1 (ou 0 [(gd o4.2 0)]) fun _=>none) fun _=>none):=by kernel_rfl
theorem z2l (a0 a1:D):z0U.F [a0,a1]=rn (
 (z0Y (fun l2=>
 if (decide ((gd l2 0).i<(a0.l.length:Int)))then
 if (inb (gd l2 0).i a0.l.length)then
 (z44.F [(gd a0.l (gd l2 0).i.toNat),(a1.fld 0),(a1.fld 1)]).bind fun r3=>
 if r3.b then
 ou 1 [(gd l2 0)]
 else
 ou 0 [(.int (IntKind.wrap .i64 ((gd l2 0).i+1)))]
 else none
 else
 ou 2 []) [(.int 0)]).bind fun o2=>
 sel2 o2.1 (ou 0 [(gd o2.2 0)]) fun n2=>
 sel2 n2 (ou 0 [(.int (-1))]) fun _=>none):=by kernel_rfl
theorem z2E (a0 a1:D):z0M.F [a0,a1]=rn (
 (z0U.F [a0,a1]).bind fun r2=>
 ou 0 [(.bool (decide (r2.i >= 0)))]):=by kernel_rfl
theorem zLV (a0 a1 a2 a3:D):z6D.F [a0,a1,a2,a3]=rn (
 if (a3.i==1)then
 (z3n.F [(a2.fld 0),a0]).bind fun r4=>
 ou 0 [(.bool (!r4.b))]
 else
 if (a3.i==2)then
 (if ((a2.fld 1).i==6)then
 ou 0 [(.bool (!((a2.fld 0).s==a0.s)))]
 else
 ou 0 [(.bool false)]).bind fun o4=>
 sel2 o4.1 (ou 0 [(gd o4.2 0)]) fun _=>none
 else
 if (a3.i==3)then
 (z57.F [a1,(a2.fld 0),(a2.fld 1)]).bind fun r4=>
 (z0L.F [r4,(.pair a2 .unit)]).bind fun r5=>
 ou 0 [r5]
 else
 if (a3.i==4)then
 (if ((a2.fld 1).i==5)then
 (z57.F [a1,(a2.fld 0),(.int 0)]).bind fun r4=>
 ou 0 [(.bool (decide ((r4.l.length:Int) > 1)))]
 else
 ou 0 [(.bool false)]).bind fun o4=>
 sel2 o4.1 (ou 0 [(gd o4.2 0)]) fun _=>none
 else
 if (a3.i==5)then
 (if ((a2.fld 1).i==5)then
 ou 0 [(.bool ((a2.fld 0).s==a0.s))]
 else
 ou 0 [(.bool false)]).bind fun o4=>
 sel2 o4.1 (ou 0 [(gd o4.2 0)]) fun _=>none
 else
 (z0M.F [a1,(.pair a0 (.pair a2 .unit))]).bind fun r4=>
 ou 0 [r4]):=by kernel_rfl
theorem zHn (a0 a1 a2 a3:D):z42.F [a0,a1,a2,a3]=rn (
 (z6D.F [a1,a2,a0,a3]).bind fun r4=>
 ou 0 [r4]):=by kernel_rfl
theorem z2j (a0 a1:D):z0S.F [a0,a1]=rn (
 (z0Y (fun l2=>
 if (decide ((gd l2 0).i<(a0.l.length:Int)))then
 if (inb (gd l2 0).i a0.l.length)then
 (z42.F [(gd a0.l (gd l2 0).i.toNat),(a1.fld 0),(a1.fld 1),(a1.fld 2)]).bind fun r3=>
 if r3.b then
 ou 1 [(gd l2 0)]
 else
 ou 0 [(.int (IntKind.wrap .i64 ((gd l2 0).i+1)))]
 else none
 else
 ou 2 []) [(.int 0)]).bind fun o2=>
 sel2 o2.1 (ou 0 [(gd o2.2 0)]) fun n2=>
 sel2 n2 (ou 0 [(.int (-1))]) fun _=>none):=by kernel_rfl
theorem z2C (a0 a1:D):z0C.F [a0,a1]=rn (
 (z0S.F [a0,a1]).bind fun r2=>
 ou 0 [(.bool (decide (r2.i >= 0)))]):=by kernel_rfl
theorem zLU (a0 a1:D):z6C.F [a0,a1]=rn (
 (z5b.F [a0,a1]).bind fun r2=>
 if (!r2.b)then
 ou 0 [(.int 9)]
 else
 (z0Y (fun l3=>
 if (decide ((gd l3 0).i<=6))then
 ((z0C.F [a1,(.pair a0 (.pair a1 (.pair (gd l3 0) .unit)))]).bind fun r4=>
 if r4.b then
 ou 0 [(.bool true)]
 else
 if ((gd l3 0).i==2)then
 (z57.F [a1,a0,(.int 6)]).bind fun r5=>
 ou 0 [(.bool ((r5.l.length:Int) != 1))]
 else
 ou 0 [(.bool false)]).bind fun o4=>
 sel2 o4.1 (if (gd o4.2 0).b then
 ou 1 [(gd l3 0)]
 else
 ou 0 [(.int (IntKind.wrap .i64 ((gd l3 0).i+1)))]) fun _=>none
 else
 ou 2 []) [(.int 1)]).bind fun o3=>
 sel2 o3.1 (ou 0 [(gd o3.2 0)]) fun n4=>
 sel2 n4 (ou 0 [(.int 0)]) fun _=>none):=by kernel_rfl
theorem zDh (a0:D):z49.F [a0]=rn (
 if (4294967296 != 0)then
 (z3A.F [(.int (a0.i.tmod 4294967296))]).bind fun r1=>
 ou 0 [r1]
 else none):=by kernel_rfl
theorem zHm (a0:D):z0z.F [a0]=rn (
 ((z1P.F [(a0.fld 1)]).bind fun r1=>
 if r1.b then
 (z6C.F [(a0.fld 0),(a0.fld 2)]).bind fun r2=>
 if (r2.i==0)then
 (z57.F [(a0.fld 2),(a0.fld 0),(.int 6)]).bind fun r3=>
 if (inb 0 r3.l.length)then
 (z49.F [(a0.fld 1)]).bind fun r4=>
 ou 0 [(.bool (((gd r3.l 0).fld 3).s==r4.s))]
 else none
 else
 ou 0 [(.bool false)]
 else
 ou 0 [(.bool false)]).bind fun o1=>
 sel2 o1.1 (ou 0 [(gd o1.2 0)]) fun _=>none):=by kernel_rfl
theorem zHq (a0 a1:D):z58.F [a0,a1]=rn (
 ((z0g.F [a0,(.int 0),(.int 100)]).bind fun r2=>
 if r2.b then
 (z0g.F [a1,(.int 1),(.int 1000)]).bind fun r3=>
 ou 0 [r3]
 else
 ou 0 [(.bool false)]).bind fun o2=>
 sel2 o2.1 (ou 0 [(gd o2.2 0)]) fun _=>none):=by kernel_rfl
theorem zHs (a0:D):z5B.F [a0]=rn (
 (z0g.F [a0,(.int 0),(.int 4294967295)]).bind fun r1=>
 ou 0 [r1]):=by kernel_rfl
theorem zCA (a0:D):z3Z.F [a0]=rn (
 ((z0z.F [(a0.fld 0)]).bind fun r1=>
 if (!r1.b)then
 ou 0 [(.bool true)]
 else
 (z0g.F [(a0.fld 2),(.int 0),(.int 1000000)]).bind fun r2=>
 if (!r2.b)then
 ou 0 [(.bool true)]
 else
 ou 0 [(.bool (decide (((a0.fld 1).l.length:Int) > 8)))]).bind fun o1=>
 sel2 o1.1 (if (gd o1.2 0).b then
 ou 0 [(.bool false)]
 else
 (z0Y (fun l2=>
 if (decide ((gd l2 0).i<((a0.fld 1).l.length:Int)))then
 if (inb (gd l2 0).i (a0.fld 1).l.length)then
 ((z58.F [((gd (a0.fld 1).l (gd l2 0).i.toNat).fld 0),((gd (a0.fld 1).l (gd l2 0).i.toNat).fld 1)]).bind fun r3=>
 if (!r3.b)then
 ou 0 [(.bool true)]
 else
 (z0g.F [((gd (a0.fld 1).l (gd l2 0).i.toNat).fld 2),(.int 0),(.int 4)]).bind fun r4=>
 if (!r4.b)then
 ou 0 [(.bool true)]
 else
 (z5B.F [((gd (a0.fld 1).l (gd l2 0).i.toNat).fld 3)]).bind fun r5=>
 if (!r5.b)then
 ou 0 [(.bool true)]
 else
 if (decide ((gd l2 0).i > 0))then
 if (inb (IntKind.wrap .i64 ((gd l2 0).i-1)) (a0.fld 1).l.length)then
 ou 0 [(.bool (decide (((gd (a0.fld 1).l (gd l2 0).i.toNat).fld 0).i<=((gd (a0.fld 1).l (IntKind.wrap .i64 ((gd l2 0).i-1)).toNat).fld 0).i)))]
 else none
 else
 ou 0 [(.bool false)]).bind fun o3=>
 sel2 o3.1 (if (gd o3.2 0).b then
 ou 1 [(.bool false)]
 else
 ou 0 [(.int (IntKind.wrap .i64 ((gd l2 0).i+1)))]) fun _=>none
 else none
 else
 ou 2 []) [(.int 0)]).bind fun o2=>
 sel2 o2.1 (ou 0 [(gd o2.2 0)]) fun n6=>
 sel2 n6 (ou 0 [(.bool true)]) fun _=>none) fun _=>none):=by kernel_rfl
theorem zLX (a0:D):z6F.F [a0]=rn (
 ((z1P.F [(a0.fld 0)]).bind fun r1=>
 if r1.b then
 (z1P.F [(a0.fld 1)]).bind fun r2=>
 if r2.b then
 if ((a0.fld 0).i != (a0.fld 1).i)then
 if (decide (((a0.fld 2).l.length:Int)<=40))then
 if (decide (((a0.fld 3).l.length:Int)<=40))then
 (z1r.F [(a0.fld 2)]).bind fun r3=>
 if r3.b then
 (z1r.F [(a0.fld 3)]).bind fun r4=>
 ou 0 [r4]
 else
 ou 0 [(.bool false)]
 else
 ou 0 [(.bool false)]
 else
 ou 0 [(.bool false)]
 else
 ou 0 [(.bool false)]
 else
 ou 0 [(.bool false)]
 else
 ou 0 [(.bool false)]).bind fun o1=>
 sel2 o1.1 (ou 0 [(gd o1.2 0)]) fun _=>none):=by kernel_rfl
theorem z5Y (a0 a1:D):z0p.F [a0,a1]=rn (
 (z0Y (fun l2=>
 if (decide ((gd l2 0).i<(a0.l.length:Int)))then
 if (inb (gd l2 0).i a0.l.length)then
 if (D.beq a1 (gd a0.l (gd l2 0).i.toNat))then
 ou 1 [(gd l2 0)]
 else
 ou 0 [(.int (IntKind.wrap .i64 ((gd l2 0).i+1)))]
 else none
 else
 ou 2 []) [(.int 0)]).bind fun o2=>
 sel2 o2.1 (ou 0 [(gd o2.2 0)]) fun n2=>
 sel2 n2 (ou 0 [(.int (-1))]) fun _=>none):=by kernel_rfl
theorem z4y (a0 a1:D):z0N.F [a0,a1]=rn (
 (z0p.F [a0,a1]).bind fun r2=>
 ou 0 [(.bool (decide (r2.i >= 0)))]):=by kernel_rfl
theorem zDc (a0 a1:D):z3C.F [a0,a1]=rn (
 (z0N.F [(a1.fld 3),a0]).bind fun r2=>
 ou 0 [r2]):=by kernel_rfl
theorem z2P (a0 a1:D):z0Q.F [a0,a1]=rn (
 (z0Y (fun l2=>
 if (decide ((gd l2 0).i<(a0.l.length:Int)))then
 if (inb (gd l2 0).i a0.l.length)then
 (z3C.F [(gd a0.l (gd l2 0).i.toNat),(a1.fld 0)]).bind fun r3=>
 if r3.b then
 ou 1 [(gd l2 0)]
 else
 ou 0 [(.int (IntKind.wrap .i64 ((gd l2 0).i+1)))]
 else none
 else
 ou 2 []) [(.int 0)]).bind fun o2=>
 sel2 o2.1 (ou 0 [(gd o2.2 0)]) fun n2=>
 sel2 n2 (ou 0 [(.int (-1))]) fun _=>none):=by kernel_rfl
theorem z1p (a0 a1:D):z0K.F [a0,a1]=rn (
 (z0Q.F [a0,a1]).bind fun r2=>
 ou 0 [(.bool (decide (r2.i >= 0)))]):=by kernel_rfl
theorem zHk (a0:D):z1J.F [a0]=rn (
 ((z6F.F [a0]).bind fun r1=>
 if r1.b then
 (z0K.F [(a0.fld 2),(.pair a0 .unit)]).bind fun r2=>
 ou 0 [(.bool (!r2.b))]
 else
 ou 0 [(.bool false)]).bind fun o1=>
 sel2 o1.1 (ou 0 [(gd o1.2 0)]) fun _=>none):=by kernel_rfl
theorem zCD (a0:D):z1T.F [a0]=rn (
 ((z1K.F [(a0.fld 0)]).bind fun r1=>
 if (!r1.b)then
 ou 0 [(.bool true)]
 else
 (z1P.F [(a0.fld 1)]).bind fun r2=>
 if (!r2.b)then
 ou 0 [(.bool true)]
 else
 ou 0 [(.bool (decide (((a0.fld 2).l.length:Int) > 12)))]).bind fun o1=>
 sel2 o1.1 (if (gd o1.2 0).b then
 ou 0 [(.bool false)]
 else
 (z0Y (fun l2=>
 if (decide ((gd l2 1).i<((a0.fld 2).l.length:Int)))then
 if (inb (gd l2 1).i (a0.fld 2).l.length)then
 ((z1J.F [(gd (a0.fld 2).l (gd l2 1).i.toNat)]).bind fun r4=>
 if (!r4.b)then
 ou 0 [(.bool true)]
 else
 if (((gd (a0.fld 2).l (gd l2 1).i.toNat).fld 0).i != (gd l2 0).i)then
 ou 0 [(.bool true)]
 else
 ou 0 [(.bool (decide (((gd (a0.fld 2).l (gd l2 1).i.toNat).fld 1).i<=(gd l2 0).i)))]).bind fun o4=>
 sel2 o4.1 (if (gd o4.2 0).b then
 ou 1 [(.bool false)]
 else
 ou 0 [((gd (a0.fld 2).l (gd l2 1).i.toNat).fld 1),(.int (IntKind.wrap .i64 ((gd l2 1).i+1)))]) fun _=>none
 else none
 else
 ou 2 []) [(a0.fld 1),(.int 0)]).bind fun o2=>
 sel2 o2.1 (ou 0 [(gd o2.2 0)]) fun n6=>
 sel2 n6 (ou 0 [(.bool true)]) fun _=>none) fun _=>none):=by kernel_rfl
theorem zB5 (a0:D):z3H.F [a0]=rn (
 if (((a0.fld 2).l.length:Int)==0)then
 ou 0 [(a0.fld 1)]
 else
 if (inb (IntKind.wrap .i64 (((a0.fld 2).l.length:Int)-1)) (a0.fld 2).l.length)then
 ou 0 [((gd (a0.fld 2).l (IntKind.wrap .i64 (((a0.fld 2).l.length:Int)-1)).toNat).fld 1)]
 else none):=by kernel_rfl
theorem zFG (a0 a1:D):z1s.F [a0,a1]=rn (
 ((z0z.F [a1]).bind fun r2=>
 if r2.b then
 if ((a1.fld 0).s==([101,120,46,99,111,109]:List UInt8))then
 ou 0 [(.bool (decide ((a1.fld 1).i<=(((a0.fld 0).fld 0).fld 1).i)))]
 else
 ou 0 [(.bool false)]
 else
 ou 0 [(.bool false)]).bind fun o2=>
 sel2 o2.1 (ou 0 [(gd o2.2 0)]) fun _=>none):=by kernel_rfl
theorem zCB (a0 a1:D):z2s.F [a0,a1]=rn (
 ((z1s.F [a1,(a0.fld 0)]).bind fun r2=>
 if (!r2.b)then
 ou 0 [(.bool true)]
 else
 (z1s.F [a1,(a0.fld 1)]).bind fun r3=>
 ou 0 [(.bool (!r3.b))]).bind fun o2=>
 sel2 o2.1 (ou 0 [(gd o2.2 0)]) fun _=>none):=by kernel_rfl
theorem z2p (a0 a1:D):z0W.F [a0,a1]=rn (
 (z0Y (fun l2=>
 if (decide ((gd l2 0).i<(a0.l.length:Int)))then
 if (inb (gd l2 0).i a0.l.length)then
 (z2s.F [(gd a0.l (gd l2 0).i.toNat),(a1.fld 0)]).bind fun r3=>
 if r3.b then
 ou 1 [(gd l2 0)]
 else
 ou 0 [(.int (IntKind.wrap .i64 ((gd l2 0).i+1)))]
 else none
 else
 ou 2 []) [(.int 0)]).bind fun o2=>
 sel2 o2.1 (ou 0 [(gd o2.2 0)]) fun n2=>
 sel2 n2 (ou 0 [(.int (-1))]) fun _=>none):=by kernel_rfl
theorem z2O (a0 a1:D):z0P.F [a0,a1]=rn (
 (z0W.F [a0,a1]).bind fun r2=>
 ou 0 [(.bool (decide (r2.i >= 0)))]):=by kernel_rfl
theorem zHr (a0 a1:D):z5A.F [a0,a1]=rn (
 (z0g.F [(a1.fld 0),(.int 0),(.int (IntKind.wrap .i64 (((a0.fld 2).l.length:Int)-1)))]).bind fun r2=>
 if (!r2.b)then
 ou 0 [(.bool false)]
 else
 if (a1.fld 1).b then
 ((z1s.F [a0,(a1.fld 2)]).bind fun r3=>
 if r3.b then
 if (((a1.fld 3).fld 0).i==0)then
 if (((a1.fld 3).fld 1).i==0)then
 if ((((a1.fld 3).fld 2).l.length:Int)==0)then
 ou 0 [(.bool ((((a1.fld 3).fld 3).l.length:Int)==0))]
 else
 ou 0 [(.bool false)]
 else
 ou 0 [(.bool false)]
 else
 ou 0 [(.bool false)]
 else
 ou 0 [(.bool false)]).bind fun o3=>
 sel2 o3.1 (ou 0 [(gd o3.2 0)]) fun _=>none
 else
 ((z1J.F [(a1.fld 3)]).bind fun r3=>
 if r3.b then
 if (decide (((a1.fld 3).fld 1).i >= ((a1.fld 3).fld 0).i))then
 if (decide (((a1.fld 3).fld 1).i<=(((a0.fld 0).fld 0).fld 1).i))then
 if (((a1.fld 2).fld 0).s==([]:List UInt8))then
 if (((a1.fld 2).fld 1).i==0)then
 ou 0 [(.bool ((((a1.fld 2).fld 2).l.length:Int)==0))]
 else
 ou 0 [(.bool false)]
 else
 ou 0 [(.bool false)]
 else
 ou 0 [(.bool false)]
 else
 ou 0 [(.bool false)]
 else
 ou 0 [(.bool false)]).bind fun o3=>
 sel2 o3.1 (ou 0 [(gd o3.2 0)]) fun _=>none):=by kernel_rfl
theorem zCC (a0 a1:D):z2t.F [a0,a1]=rn (
 (z5A.F [a1,a0]).bind fun r2=>
 ou 0 [(.bool (!r2.b))]):=by kernel_rfl
theorem z2F (a0 a1:D):z0O.F [a0,a1]=rn (
 (z0Y (fun l2=>
 if (decide ((gd l2 0).i<(a0.l.length:Int)))then
 if (inb (gd l2 0).i a0.l.length)then
 (z2t.F [(gd a0.l (gd l2 0).i.toNat),(a1.fld 0)]).bind fun r3=>
 if r3.b then
 ou 1 [(gd l2 0)]
 else
 ou 0 [(.int (IntKind.wrap .i64 ((gd l2 0).i+1)))]
 else none
 else
 ou 2 []) [(.int 0)]).bind fun o2=>
 sel2 o2.1 (ou 0 [(gd o2.2 0)]) fun n2=>
 sel2 n2 (ou 0 [(.int (-1))]) fun _=>none):=by kernel_rfl
theorem z1n (a0 a1:D):z0I.F [a0,a1]=rn (
 (z0O.F [a0,a1]).bind fun r2=>
 ou 0 [(.bool (decide (r2.i >= 0)))]):=by kernel_rfl
theorem zFB (a0:D):z4V.F [a0]=rn (
 ((z3Z.F [(a0.fld 0)]).bind fun r1=>
 if (!r1.b)then
 ou 0 [(.bool true)]
 else
 if (!((((a0.fld 0).fld 0).fld 0).s==([101,120,46,99,111,109]:List UInt8)))then
 ou 0 [(.bool true)]
 else
 (z1T.F [(a0.fld 1)]).bind fun r2=>
 if (!r2.b)then
 ou 0 [(.bool true)]
 else
 if (!(((a0.fld 1).fld 0).s==([101,120,46,99,111,109]:List UInt8)))then
 ou 0 [(.bool true)]
 else
 (z3H.F [(a0.fld 1)]).bind fun r3=>
 ou 0 [(.bool (r3.i != (((a0.fld 0).fld 0).fld 1).i))]).bind fun o1=>
 sel2 o1.1 (if (gd o1.2 0).b then
 ou 0 [(.bool false)]
 else
 ((z0g.F [(.int ((a0.fld 2).l.length:Int)),(.int 1),(.int 3)]).bind fun r2=>
 if (!r2.b)then
 ou 0 [(.bool true)]
 else
 ou 0 [(.bool (decide (((a0.fld 3).l.length:Int) > 12)))]).bind fun o2=>
 sel2 o2.1 (if (gd o2.2 0).b then
 ou 0 [(.bool false)]
 else
 ((z0P.F [(a0.fld 2),(.pair a0 .unit)]).bind fun r3=>
 if (!r3.b)then
 (z0I.F [(a0.fld 3),(.pair a0 .unit)]).bind fun r4=>
 ou 0 [(.bool (!r4.b))]
 else
 ou 0 [(.bool false)]).bind fun o3=>
 sel2 o3.1 (ou 0 [(gd o3.2 0)]) fun _=>none) fun _=>none) fun _=>none):=by kernel_rfl
theorem z5X (a0:D):z0G.F [a0]=rn (
 two a0.l.isEmpty
 (ou 0 [(D.lst [])])
 (if (appOk 48 ([]:List D) a0.l)then
 ou 0 [(D.lst (([]:List D)++a0.l))]
 else none)):=by kernel_rfl
theorem zJT (a0:D):z12.F [a0]=rn (
 (z0G.F [(a0.fld 2)]).bind fun r1=>
 ou 0 [(a0.setFld 2 r1)]):=by kernel_rfl
theorem z67 (a0:D):z0x.F [a0]=rn (
 two a0.l.isEmpty
 (ou 0 [(D.lst [])])
 (if (appOk 32 ([]:List D) a0.l)then
 ou 0 [(D.lst (([]:List D)++a0.l))]
 else none)):=by kernel_rfl
theorem zDg (a0:D):z47.F [a0]=rn (
 (z12.F [(a0.fld 0)]).bind fun r1=>
 (z0x.F [(a0.fld 1)]).bind fun r2=>
 ou 0 [(.pair r1 (.pair r2 (.pair (a0.fld 2) .unit)))]):=by kernel_rfl
theorem zJS (a0:D):z35.F [a0]=rn (
 (z0G.F [(a0.fld 2)]).bind fun r1=>
 (z0G.F [(a0.fld 3)]).bind fun r2=>
 ou 0 [((a0.setFld 2 r1).setFld 3 r2)]):=by kernel_rfl
theorem zHw (a0:D):z2c.F [a0]=rn (
 (z0Y (fun l1=>
 if (decide ((gd l1 1).i<(a0.l.length:Int)))then
 if (inb (gd l1 1).i a0.l.length)then
 (z35.F [(gd a0.l (gd l1 1).i.toNat)]).bind fun r3=>
 if (appOk 64 (gd l1 0).l (r3::([]:List D)))then
 ou 0 [(D.lst ((gd l1 0).l++(r3::([]:List D)))),(.int (IntKind.wrap .i64 ((gd l1 1).i+1)))]
 else none
 else none
 else
 ou 1 [(gd l1 0)]) [(D.lst []),(.int 0)]).bind fun o1=>
 sel2 o1.1 (ou 0 [(gd o1.2 0)]) fun _=>none):=by kernel_rfl
theorem zFH (a0:D):z4X.F [a0]=rn (
 (z12.F [(a0.fld 2)]).bind fun r1=>
 (z35.F [(a0.fld 3)]).bind fun r2=>
 ou 0 [(.pair (a0.fld 0) (.pair (a0.fld 1) (.pair r1 (.pair r2 .unit))))]):=by kernel_rfl
theorem zHx (a0:D):z48.F [a0]=rn (
 (z47.F [(a0.fld 0)]).bind fun r1=>
 (z2c.F [((a0.fld 1).fld 2)]).bind fun r2=>
 (z0Y (fun l3=>
 if (decide ((gd l3 1).i<((a0.fld 2).l.length:Int)))then
 if (inb (gd l3 1).i (a0.fld 2).l.length)then
 (z12.F [((gd (a0.fld 2).l (gd l3 1).i.toNat).fld 0)]).bind fun r5=>
 (z12.F [((gd (a0.fld 2).l (gd l3 1).i.toNat).fld 1)]).bind fun r6=>
 if (appOk 96 ((gd l3 0).fld 2).l ((.pair r5 (.pair r6 .unit))::([]:List D)))then
 ou 0 [((gd l3 0).setFld 2 (D.lst (((gd l3 0).fld 2).l++((.pair r5 (.pair r6 .unit))::([]:List D))))),(.int (IntKind.wrap .i64 ((gd l3 1).i+1)))]
 else none
 else none
 else
 ou 1 [(gd l3 0)]) [(.pair r1 (.pair (.pair ((a0.fld 1).fld 0) (.pair ((a0.fld 1).fld 1) (.pair r2 .unit))) (.pair (D.lst []) (.pair (D.lst []) .unit)))),(.int 0)]).bind fun o3=>
 sel2 o3.1 ((z0Y (fun l4=>
 if (decide ((gd l4 1).i<((a0.fld 3).l.length:Int)))then
 if (inb (gd l4 1).i (a0.fld 3).l.length)then
 (z4X.F [(gd (a0.fld 3).l (gd l4 1).i.toNat)]).bind fun r6=>
 if (appOk 128 ((gd l4 0).fld 3).l (r6::([]:List D)))then
 ou 0 [((gd l4 0).setFld 3 (D.lst (((gd l4 0).fld 3).l++(r6::([]:List D))))),(.int (IntKind.wrap .i64 ((gd l4 1).i+1)))]
 else none
 else none
 else
 ou 1 [(gd l4 0)]) [(gd o3.2 0),(.int 0)]).bind fun o4=>
 sel2 o4.1 (ou 0 [(gd o4.2 0)]) fun _=>none) fun _=>none):=by kernel_rfl
theorem zCG (a0 a1:D):z2v.F [a0,a1]=rn (
 ou 0 [(.bool ((a0.fld 1).i==a1.i))]):=by kernel_rfl
theorem z2o (a0 a1:D):z0V.F [a0,a1]=rn (
 (z0Y (fun l2=>
 if (decide ((gd l2 0).i<(a0.l.length:Int)))then
 if (inb (gd l2 0).i a0.l.length)then
 (z2v.F [(gd a0.l (gd l2 0).i.toNat),(a1.fld 0)]).bind fun r3=>
 if r3.b then
 ou 1 [(gd l2 0)]
 else
 ou 0 [(.int (IntKind.wrap .i64 ((gd l2 0).i+1)))]
 else none
 else
 ou 2 []) [(.int 0)]).bind fun o2=>
 sel2 o2.1 (ou 0 [(gd o2.2 0)]) fun n2=>
 sel2 n2 (ou 0 [(.int (-1))]) fun _=>none):=by kernel_rfl
theorem zFE (a0 a1:D):z4W.F [a0,a1]=rn (
 if (a1.i==(a0.fld 1).i)then
 (z2c.F [(a0.fld 2)]).bind fun r2=>
 ou 0 [(.pair r2 (.pair (.bool true) .unit))]
 else
 (z0V.F [(a0.fld 2),(.pair a1 .unit)]).bind fun r2=>
 if (decide (r2.i<0))then
 ou 0 [(.pair (D.lst []) (.pair (.bool false) .unit))]
 else
 if (slOk (IntKind.wrap .i64 (r2.i+1)) ((a0.fld 2).l.length:Int) ((a0.fld 2).l.length:Int))then
 (z2c.F [(D.lst (((a0.fld 2).l.take ((a0.fld 2).l.length:Int).toNat).drop (IntKind.wrap .i64 (r2.i+1)).toNat))]).bind fun r3=>
 ou 0 [(.pair r3 (.pair (.bool true) .unit))]
 else none):=by kernel_rfl
theorem zJU (a0 a1:D):z2S.F [a0,a1]=rn (
 (z0Y (fun l2=>
 if (decide ((gd l2 1).i<(a0.l.length:Int)))then
 (if (inb (gd l2 1).i a0.l.length)then
 (z0N.F [a1,(gd a0.l (gd l2 1).i.toNat)]).bind fun r4=>
 if (!r4.b)then
 if (appOk 48 (gd l2 0).l ((gd a0.l (gd l2 1).i.toNat)::([]:List D)))then
 ou 0 [(D.lst ((gd l2 0).l++((gd a0.l (gd l2 1).i.toNat)::([]:List D))))]
 else none
 else
 ou 0 [(gd l2 0)]
 else none).bind fun o4=>
 sel2 o4.1 (ou 0 [(gd o4.2 0),(.int (IntKind.wrap .i64 ((gd l2 1).i+1)))]) fun _=>none
 else
 ou 1 [(gd l2 0)]) [(D.lst []),(.int 0)]).bind fun o2=>
 sel2 o2.1 (ou 0 [(gd o2.2 0)]) fun _=>none):=by kernel_rfl
theorem z1D (a0 a1 a2:D):z09.F [a0,a1,a2]=rn (
 (z0Y (fun l3=>
 if (decide ((gd l3 0).i<(gd l3 1).i))then
 if (decide (0<=1))then
 if (inb (IntKind.wrap .i64 ((IntKind.wrap .u64 (IntKind.wrap .i64 ((gd l3 0).i+(gd l3 1).i))).fdiv (2 ^ min 1 (IntKind.bits .u64)))) a0.l.length)then
 (z10.F [(gd a0.l (IntKind.wrap .i64 ((IntKind.wrap .u64 (IntKind.wrap .i64 ((gd l3 0).i+(gd l3 1).i))).fdiv (2 ^ min 1 (IntKind.bits .u64)))).toNat),a1]).bind fun r5=>
 if (decide (r5.i<0))then
 ou 0 [(.int (IntKind.wrap .i64 ((IntKind.wrap .i64 ((IntKind.wrap .u64 (IntKind.wrap .i64 ((gd l3 0).i+(gd l3 1).i))).fdiv (2 ^ min 1 (IntKind.bits .u64))))+1))),(gd l3 1)]
 else
 ou 0 [(gd l3 0),(.int (IntKind.wrap .i64 ((IntKind.wrap .u64 (IntKind.wrap .i64 ((gd l3 0).i+(gd l3 1).i))).fdiv (2 ^ min 1 (IntKind.bits .u64)))))]
 else none
 else none
 else
 ou 1 [(gd l3 0)]) [(.int 0),(.int (a0.l.length:Int))]).bind fun o3=>
 sel2 o3.1 ((if (decide ((gd o3.2 0).i<(a0.l.length:Int)))then
 if (inb (gd o3.2 0).i a0.l.length)then
 (z10.F [(gd a0.l (gd o3.2 0).i.toNat),a1]).bind fun r4=>
 ou 0 [(gd o3.2 0),(.bool (r4.i==0))]
 else none
 else
 ou 0 [(gd o3.2 0),(.bool false)]).bind fun o4=>
 sel2 o4.1 (ou 0 [(.pair (gd o4.2 0) (.pair (gd o4.2 1) .unit))]) fun _=>none) fun _=>none):=by kernel_rfl
theorem zRC (a0 a1:D):z6e.F [a0,a1]=rn (
 (z09.F [a0,a1,.unit]).bind fun r2=>
 if (r2.fld 1).b then
 ou 0 [a0]
 else
 (z1L.F [a0,(r2.fld 0),(D.lst (a1::([]:List D)))]).bind fun r3=>
 ou 0 [r3]):=by kernel_rfl
theorem zPE (a0 a1:D):z7U.F [a0,a1]=rn (
 (z0G.F [a0]).bind fun r2=>
 (z0Y (fun l3=>
 if (decide ((gd l3 1).i<(a1.l.length:Int)))then
 if (inb (gd l3 1).i a1.l.length)then
 (z6e.F [(gd l3 0),(gd a1.l (gd l3 1).i.toNat)]).bind fun r5=>
 ou 0 [r5,(.int (IntKind.wrap .i64 ((gd l3 1).i+1)))]
 else none
 else
 ou 1 [(gd l3 0)]) [r2,(.int 0)]).bind fun o3=>
 sel2 o3.1 (ou 0 [(gd o3.2 0)]) fun _=>none):=by kernel_rfl
theorem zFA (a0 a1:D):z1q.F [a0,a1]=rn (
 ((z0z.F [a0]).bind fun r2=>
 if (!r2.b)then
 ou 0 [(.bool true)]
 else
 (z1J.F [a1]).bind fun r3=>
 if (!r3.b)then
 ou 0 [(.bool true)]
 else
 if ((a0.fld 1).i != (a1.fld 0).i)then
 ou 0 [(.bool true)]
 else
 (z2S.F [(a1.fld 2),(a0.fld 2)]).bind fun r4=>
 if (decide ((r4.l.length:Int) > 0))then
 ou 0 [(.bool true)]
 else
 (z2S.F [(a1.fld 3),(a0.fld 2)]).bind fun r5=>
 ou 0 [(.bool (decide ((r5.l.length:Int)<((a1.fld 3).l.length:Int))))]).bind fun o2=>
 sel2 o2.1 (if (gd o2.2 0).b then
 ou 0 [(.pair (.pair (.str []) (.pair (.int 0) (.pair (D.lst []) .unit))) (.pair (.bool false) .unit))]
 else
 (z2S.F [(a0.fld 2),(a1.fld 2)]).bind fun r3=>
 (z7U.F [r3,(a1.fld 3)]).bind fun r4=>
 (z0z.F [(.pair (a0.fld 0) (.pair (a1.fld 1) (.pair r4 .unit)))]).bind fun r5=>
 if (!r5.b)then
 ou 0 [(.pair (.pair (.str []) (.pair (.int 0) (.pair (D.lst []) .unit))) (.pair (.bool false) .unit))]
 else
 ou 0 [(.pair (.pair (a0.fld 0) (.pair (a1.fld 1) (.pair r4 .unit))) (.pair (.bool true) .unit))]) fun _=>none):=by kernel_rfl
theorem zJO (a0 a1:D):z3m.F [a0,a1]=rn (
 ((z0z.F [a0]).bind fun r2=>
 if (!r2.b)then
 ou 0 [(.bool true)]
 else
 (z1T.F [a1]).bind fun r3=>
 if (!r3.b)then
 ou 0 [(.bool true)]
 else
 ou 0 [(.bool (!((a0.fld 0).s==(a1.fld 0).s)))]).bind fun o2=>
 sel2 o2.1 (if (gd o2.2 0).b then
 ou 0 [(.pair (.pair (.str []) (.pair (.int 0) (.pair (D.lst []) .unit))) (.pair (.int 0) (.pair (.bool false) .unit)))]
 else
 (z4W.F [a1,(a0.fld 1)]).bind fun r3=>
 if (!(r3.fld 1).b)then
 ou 0 [(.pair (.pair (.str []) (.pair (.int 0) (.pair (D.lst []) .unit))) (.pair (.int 0) (.pair (.bool false) .unit)))]
 else
 (z12.F [a0]).bind fun r4=>
 (z0Y (fun l5=>
 if (decide ((gd l5 1).i<((r3.fld 0).l.length:Int)))then
 if (inb (gd l5 1).i (r3.fld 0).l.length)then
 (z1q.F [(gd l5 0),(gd (r3.fld 0).l (gd l5 1).i.toNat)]).bind fun r7=>
 if (!(r7.fld 1).b)then
 ou 1 [(.pair (.str []) (.pair (.int 0) (.pair (D.lst []) .unit))),(.int 0),(.bool false)]
 else
 ou 0 [(r7.fld 0),(.int (IntKind.wrap .i64 ((gd l5 1).i+1)))]
 else none
 else
 ou 2 [(gd l5 0)]) [r4,(.int 0)]).bind fun o5=>
 sel2 o5.1 (ou 0 [(.pair (gd o5.2 0) (.pair (gd o5.2 1) (.pair (gd o5.2 2) .unit)))]) fun n8=>
 sel2 n8 (ou 0 [(.pair (gd o5.2 0) (.pair (.int ((r3.fld 0).l.length:Int)) (.pair (.bool true) .unit)))]) fun _=>none) fun _=>none):=by kernel_rfl
theorem zB4 (a0:D):z4M.F [a0]=rn (
 (z0Y (fun l1=>
 if (decide ((gd l1 2).i<((a0.fld 2).l.length:Int)))then
 if (inb (gd l1 2).i ((gd l1 0).fld 2).l.length)then
 (z3m.F [((gd ((gd l1 0).fld 2).l (gd l1 2).i.toNat).fld 0),((gd l1 0).fld 1)]).bind fun r4=>
 (if (!(r4.fld 2).b)then
 (z12.F [(((gd l1 0).fld 0).fld 0)]).bind fun r5=>
 ou 0 [r5,(.int 1)]
 else
 ou 0 [(r4.fld 0),(r4.fld 1)]).bind fun o5=>
 sel2 o5.1 (ou 0 [((gd l1 0).setFld 2 (D.lst (upd ((gd l1 0).fld 2).l (gd l1 2).i.toNat 0 (gd o5.2 0)))),(.int (IntKind.wrap .i64 ((gd l1 1).i+(gd o5.2 1).i))),(.int (IntKind.wrap .i64 ((gd l1 2).i+1)))]) fun _=>none
 else none
 else
 ou 1 [(gd l1 0),(gd l1 1)]) [(a0.setFld 3 (D.lst [])),(.int 0),(.int 0)]).bind fun o1=>
 sel2 o1.1 (ou 0 [(.pair (gd o1.2 1) (.pair (gd o1.2 0) .unit))]) fun _=>none):=by kernel_rfl
theorem zCE (a0:D):z2u.F [a0]=rn (
 (z4V.F [a0]).bind fun r1=>
 if (!r1.b)then
 ou 0 [(.pair (.pair (.pair (.pair (.str []) (.pair (.int 0) (.pair (D.lst []) .unit))) (.pair (D.lst []) (.pair (.int 0) .unit))) (.pair (.pair (.str []) (.pair (.int 0) (.pair (D.lst []) .unit))) (.pair (D.lst []) (.pair (D.lst []) .unit)))) (.pair (.int 0) (.pair (.bool false) .unit)))]
 else
 (z48.F [a0]).bind fun r2=>
 (z4M.F [r2]).bind fun r3=>
 (z48.F [(r3.fld 1)]).bind fun r4=>
 ou 0 [(.pair r4 (.pair (r3.fld 0) (.pair (.bool true) .unit)))]):=by kernel_rfl
theorem zHz (a0 a1:D):z5C.F [a0,a1]=rn (
 if (!((a0.fld 0).s==(a1.fld 0).s))then
 ou 0 [(.bool false)]
 else
 if ((a0.fld 1).i != (a1.fld 1).i)then
 ou 0 [(.bool false)]
 else
 if ((a0.fld 2).i != (a1.fld 2).i)then
 ou 0 [(.bool false)]
 else
 if (!((a0.fld 3).s==(a1.fld 3).s))then
 ou 0 [(.bool false)]
 else
 ou 0 [(.bool true)]):=by kernel_rfl
theorem zFL (a0 a1:D):z1t.F [a0,a1]=rn (
 if ((a0.l.length:Int) != (a1.l.length:Int))then
 ou 0 [(.bool false)]
 else
 (z0Y (fun l2=>
 if (decide ((gd l2 0).i<(a0.l.length:Int)))then
 if (inb (gd l2 0).i a0.l.length)then
 if (inb (gd l2 0).i a1.l.length)then
 (z5C.F [(gd a0.l (gd l2 0).i.toNat),(gd a1.l (gd l2 0).i.toNat)]).bind fun r3=>
 if (!r3.b)then
 ou 1 []
 else
 ou 0 [(.int (IntKind.wrap .i64 ((gd l2 0).i+1)))]
 else none
 else none
 else
 ou 2 []) [(.int 0)]).bind fun o2=>
 sel2 o2.1 (ou 0 [(.bool false)]) fun n4=>
 sel2 n4 (ou 0 [(.bool true)]) fun _=>none):=by kernel_rfl
theorem zLc (a0 a1:D):z2U.F [a0,a1]=rn (
 if (!((a0.fld 0).s==(a1.fld 0).s))then
 ou 0 [(.bool false)]
 else
 if ((a0.fld 1).i != (a1.fld 1).i)then
 ou 0 [(.bool false)]
 else
 (z1t.F [(a0.fld 2),(a1.fld 2)]).bind fun r2=>
 if (!r2.b)then
 ou 0 [(.bool false)]
 else
 ou 0 [(.bool true)]):=by kernel_rfl
theorem zLa (a0 a1:D):z6G.F [a0,a1]=rn (
 if ((a0.fld 0).i != (a1.fld 0).i)then
 ou 0 [(.bool false)]
 else
 if ((a0.fld 1).i != (a1.fld 1).i)then
 ou 0 [(.bool false)]
 else
 if ((a0.fld 2).i != (a1.fld 2).i)then
 ou 0 [(.bool false)]
 else
 if ((a0.fld 3).i != (a1.fld 3).i)then
 ou 0 [(.bool false)]
 else
 ou 0 [(.bool true)]):=by kernel_rfl
theorem zJW (a0 a1:D):z5d.F [a0,a1]=rn (
 if ((a0.l.length:Int) != (a1.l.length:Int))then
 ou 0 [(.bool false)]
 else
 (z0Y (fun l2=>
 if (decide ((gd l2 0).i<(a0.l.length:Int)))then
 if (inb (gd l2 0).i a0.l.length)then
 if (inb (gd l2 0).i a1.l.length)then
 (z6G.F [(gd a0.l (gd l2 0).i.toNat),(gd a1.l (gd l2 0).i.toNat)]).bind fun r3=>
 if (!r3.b)then
 ou 1 []
 else
 ou 0 [(.int (IntKind.wrap .i64 ((gd l2 0).i+1)))]
 else none
 else none
 else
 ou 2 []) [(.int 0)]).bind fun o2=>
 sel2 o2.1 (ou 0 [(.bool false)]) fun n4=>
 sel2 n4 (ou 0 [(.bool true)]) fun _=>none):=by kernel_rfl
theorem zFI (a0 a1:D):z4Y.F [a0,a1]=rn (
 (z2U.F [(a0.fld 0),(a1.fld 0)]).bind fun r2=>
 if (!r2.b)then
 ou 0 [(.bool false)]
 else
 (z5d.F [(a0.fld 1),(a1.fld 1)]).bind fun r3=>
 if (!r3.b)then
 ou 0 [(.bool false)]
 else
 if ((a0.fld 2).i != (a1.fld 2).i)then
 ou 0 [(.bool false)]
 else
 ou 0 [(.bool true)]):=by kernel_rfl
theorem zLZ (a0 a1:D):z3b.F [a0,a1]=rn (
 if ((a0.fld 0).i != (a1.fld 0).i)then
 ou 0 [(.bool false)]
 else
 if ((a0.fld 1).i != (a1.fld 1).i)then
 ou 0 [(.bool false)]
 else
 (z1t.F [(a0.fld 2),(a1.fld 2)]).bind fun r2=>
 if (!r2.b)then
 ou 0 [(.bool false)]
 else
 (z1t.F [(a0.fld 3),(a1.fld 3)]).bind fun r3=>
 if (!r3.b)then
 ou 0 [(.bool false)]
 else
 ou 0 [(.bool true)]):=by kernel_rfl
theorem zJV (a0 a1:D):z5c.F [a0,a1]=rn (
 if ((a0.l.length:Int) != (a1.l.length:Int))then
 ou 0 [(.bool false)]
 else
 (z0Y (fun l2=>
 if (decide ((gd l2 0).i<(a0.l.length:Int)))then
 if (inb (gd l2 0).i a0.l.length)then
 if (inb (gd l2 0).i a1.l.length)then
 (z3b.F [(gd a0.l (gd l2 0).i.toNat),(gd a1.l (gd l2 0).i.toNat)]).bind fun r3=>
 if (!r3.b)then
 ou 1 []
 else
 ou 0 [(.int (IntKind.wrap .i64 ((gd l2 0).i+1)))]
 else none
 else none
 else
 ou 2 []) [(.int 0)]).bind fun o2=>
 sel2 o2.1 (ou 0 [(.bool false)]) fun n4=>
 sel2 n4 (ou 0 [(.bool true)]) fun _=>none):=by kernel_rfl
theorem zFJ (a0 a1:D):z4Z.F [a0,a1]=rn (
 if (!((a0.fld 0).s==(a1.fld 0).s))then
 ou 0 [(.bool false)]
 else
 if ((a0.fld 1).i != (a1.fld 1).i)then
 ou 0 [(.bool false)]
 else
 (z5c.F [(a0.fld 2),(a1.fld 2)]).bind fun r2=>
 if (!r2.b)then
 ou 0 [(.bool false)]
 else
 ou 0 [(.bool true)]):=by kernel_rfl
theorem zLb (a0 a1:D):z5N.F [a0,a1]=rn (
 (z2U.F [(a0.fld 0),(a1.fld 0)]).bind fun r2=>
 if (!r2.b)then
 ou 0 [(.bool false)]
 else
 (z2U.F [(a0.fld 1),(a1.fld 1)]).bind fun r3=>
 if (!r3.b)then
 ou 0 [(.bool false)]
 else
 ou 0 [(.bool true)]):=by kernel_rfl
theorem zJX (a0 a1:D):z5e.F [a0,a1]=rn (
 if ((a0.l.length:Int) != (a1.l.length:Int))then
 ou 0 [(.bool false)]
 else
 (z0Y (fun l2=>
 if (decide ((gd l2 0).i<(a0.l.length:Int)))then
 if (inb (gd l2 0).i a0.l.length)then
 if (inb (gd l2 0).i a1.l.length)then
 (z5N.F [(gd a0.l (gd l2 0).i.toNat),(gd a1.l (gd l2 0).i.toNat)]).bind fun r3=>
 if (!r3.b)then
 ou 1 []
 else
 ou 0 [(.int (IntKind.wrap .i64 ((gd l2 0).i+1)))]
 else none
 else none
 else
 ou 2 []) [(.int 0)]).bind fun o2=>
 sel2 o2.1 (ou 0 [(.bool false)]) fun n4=>
 sel2 n4 (ou 0 [(.bool true)]) fun _=>none):=by kernel_rfl
theorem zHy (a0 a1:D):z4A.F [a0,a1]=rn (
 if ((a0.fld 0).i != (a1.fld 0).i)then
 ou 0 [(.bool false)]
 else
 if (!((a0.fld 1).b==(a1.fld 1).b))then
 ou 0 [(.bool false)]
 else
 (z2U.F [(a0.fld 2),(a1.fld 2)]).bind fun r2=>
 if (!r2.b)then
 ou 0 [(.bool false)]
 else
 (z3b.F [(a0.fld 3),(a1.fld 3)]).bind fun r3=>
 if (!r3.b)then
 ou 0 [(.bool false)]
 else
 ou 0 [(.bool true)]):=by kernel_rfl
theorem zFK (a0 a1:D):z4a.F [a0,a1]=rn (
 if ((a0.l.length:Int) != (a1.l.length:Int))then
 ou 0 [(.bool false)]
 else
 (z0Y (fun l2=>
 if (decide ((gd l2 0).i<(a0.l.length:Int)))then
 if (inb (gd l2 0).i a0.l.length)then
 if (inb (gd l2 0).i a1.l.length)then
 (z4A.F [(gd a0.l (gd l2 0).i.toNat),(gd a1.l (gd l2 0).i.toNat)]).bind fun r3=>
 if (!r3.b)then
 ou 1 []
 else
 ou 0 [(.int (IntKind.wrap .i64 ((gd l2 0).i+1)))]
 else none
 else none
 else
 ou 2 []) [(.int 0)]).bind fun o2=>
 sel2 o2.1 (ou 0 [(.bool false)]) fun n4=>
 sel2 n4 (ou 0 [(.bool true)]) fun _=>none):=by kernel_rfl
theorem zJY (a0 a1:D):z2T.F [a0,a1]=rn (
 (z4Y.F [(a0.fld 0),(a1.fld 0)]).bind fun r2=>
 if (!r2.b)then
 ou 0 [(.bool false)]
 else
 (z4Z.F [(a0.fld 1),(a1.fld 1)]).bind fun r3=>
 if (!r3.b)then
 ou 0 [(.bool false)]
 else
 (z5e.F [(a0.fld 2),(a1.fld 2)]).bind fun r4=>
 if (!r4.b)then
 ou 0 [(.bool false)]
 else
 (z4a.F [(a0.fld 3),(a1.fld 3)]).bind fun r5=>
 if (!r5.b)then
 ou 0 [(.bool false)]
 else
 ou 0 [(.bool true)]):=by kernel_rfl
theorem zI1 (a0:D):z0a.F [a0]=rn (
 if (decide (a0.i<=0))then
 ou 0 [(D.str [109,48])]
 else
 (z0Y (fun l1=>
 if (decide ((gd l1 0).i > 0))then
 if (10 != 0)then
 if (catOk (z0l ((.int (IntKind.wrap .u8 (IntKind.wrap .i64 (48+((gd l1 0).i.tmod 10)))))::([]:List D))) (gd l1 1).s)then
 ou 0 [(.int (IntKind.wrap .i64 ((gd l1 0).i.tdiv 10))),(.str ((z0l ((.int (IntKind.wrap .u8 (IntKind.wrap .i64 (48+((gd l1 0).i.tmod 10)))))::([]:List D)))++(gd l1 1).s))]
 else none
 else none
 else
 ou 1 [(gd l1 1)]) [a0,(D.str [])]).bind fun o1=>
 sel2 o1.1 (if (catOk ([109]:List UInt8) (gd o1.2 0).s)then
 ou 0 [(.str (([109]:List UInt8)++(gd o1.2 0).s))]
 else none) fun _=>none):=by kernel_rfl
theorem zCN (a0 a1:D):z0X.F [a0,a1]=rn (
 (z0Y (fun l2=>
 if (decide ((gd l2 2).i<((gd l2 0).l.length:Int)))then
 (z0a.F [(gd l2 1)]).bind fun r5=>
 if (inb (gd l2 2).i (gd l2 0).l.length)then
 (z0a.F [(.int (IntKind.wrap .i64 ((IntKind.wrap .i64 ((IntKind.wrap .i64 ((gd l2 1).i+1))+1))+1)))]).bind fun r6=>
 ou 0 [(D.lst (upd (upd (upd (upd (gd l2 0).l (gd l2 2).i.toNat 0 r5) (gd l2 2).i.toNat 1 (.int (IntKind.wrap .i64 ((gd l2 1).i+1)))) (gd l2 2).i.toNat 2 (.int (IntKind.wrap .i64 ((IntKind.wrap .i64 ((gd l2 1).i+1))+1)))) (gd l2 2).i.toNat 3 r6)),(.int (IntKind.wrap .i64 ((IntKind.wrap .i64 ((IntKind.wrap .i64 ((IntKind.wrap .i64 ((gd l2 1).i+1))+1))+1))+1))),(.int (IntKind.wrap .i64 ((gd l2 2).i+1)))]
 else none
 else
 ou 1 [(gd l2 0),(gd l2 1)]) [a0,a1,(.int 0)]).bind fun o2=>
 sel2 o2.1 (ou 0 [(.pair (gd o2.2 1) (.pair (gd o2.2 0) .unit))]) fun _=>none):=by kernel_rfl
theorem zI2 (a0 a1:D):z5E.F [a0,a1]=rn (
 (z0X.F [(a0.fld 2),a1]).bind fun r2=>
 ou 0 [(.pair (r2.fld 0) (.pair (D.mix (.pair .str (.pair (.int .i64) (.pair (.lst true (.pair .str (.pair (.int .i64) (.pair (.int .i64) (.pair .str .unit))))) .unit))) a0 (a0.setFld 2 (r2.fld 1))) .unit))]):=by kernel_rfl
theorem zFR (a0 a1:D):z4f.F [a0,a1]=rn (
 (z0Y (fun l2=>
 if (decide ((gd l2 2).i<((gd l2 0).l.length:Int)))then
 if (inb (gd l2 2).i (gd l2 0).l.length)then
 ou 0 [(D.lst (upd (upd (upd (upd (gd l2 0).l (gd l2 2).i.toNat 0 (gd l2 1)) (gd l2 2).i.toNat 1 (.int (IntKind.wrap .i64 ((gd l2 1).i+1)))) (gd l2 2).i.toNat 2 (.int (IntKind.wrap .i64 ((IntKind.wrap .i64 ((gd l2 1).i+1))+1)))) (gd l2 2).i.toNat 3 (.int (IntKind.wrap .i64 ((IntKind.wrap .i64 ((IntKind.wrap .i64 ((gd l2 1).i+1))+1))+1))))),(.int (IntKind.wrap .i64 ((IntKind.wrap .i64 ((IntKind.wrap .i64 ((IntKind.wrap .i64 ((gd l2 1).i+1))+1))+1))+1))),(.int (IntKind.wrap .i64 ((gd l2 2).i+1)))]
 else none
 else
 ou 1 [(gd l2 0),(gd l2 1)]) [a0,a1,(.int 0)]).bind fun o2=>
 sel2 o2.1 (ou 0 [(.pair (gd o2.2 1) (.pair (gd o2.2 0) .unit))]) fun _=>none):=by kernel_rfl
theorem zCL (a0 a1:D):z3f.F [a0,a1]=rn (
 (z5E.F [(a0.fld 0),a1]).bind fun r2=>
 (z4f.F [(a0.fld 1),(r2.fld 0)]).bind fun r3=>
 ou 0 [(.pair (r3.fld 0) (.pair (D.mix (.pair (.pair .str (.pair (.int .i64) (.pair (.lst true (.pair .str (.pair (.int .i64) (.pair (.int .i64) (.pair .str .unit))))) .unit))) (.pair (.lst true (.pair (.int .i64) (.pair (.int .i64) (.pair (.int .i64) (.pair (.int .i64) .unit))))) (.pair (.int .i64) .unit))) a0 ((a0.setFld 0 (.pair ((a0.fld 0).fld 0) (.pair ((a0.fld 0).fld 1) (.pair ((r2.fld 1).fld 2) .unit)))).setFld 1 (r3.fld 1))) .unit))]):=by kernel_rfl
theorem zFQ (a0 a1:D):z4e.F [a0,a1]=rn (
 (z0Y (fun l2=>
 if (decide ((gd l2 2).i<((gd l2 0).l.length:Int)))then
 if (inb (gd l2 2).i (gd l2 0).l.length)then
 (z0X.F [((gd (D.lst (upd (upd (gd l2 0).l (gd l2 2).i.toNat 0 (gd l2 1)) (gd l2 2).i.toNat 1 (.int (IntKind.wrap .i64 ((gd l2 1).i+1))))).l (gd l2 2).i.toNat).fld 2),(.int (IntKind.wrap .i64 ((IntKind.wrap .i64 ((gd l2 1).i+1))+1)))]).bind fun r5=>
 (z0X.F [((gd (D.lst (upd (upd (upd (gd l2 0).l (gd l2 2).i.toNat 0 (gd l2 1)) (gd l2 2).i.toNat 1 (.int (IntKind.wrap .i64 ((gd l2 1).i+1)))) (gd l2 2).i.toNat 2 (r5.fld 1))).l (gd l2 2).i.toNat).fld 3),(r5.fld 0)]).bind fun r6=>
 ou 0 [(D.lst (upd (upd (upd (upd (gd l2 0).l (gd l2 2).i.toNat 0 (gd l2 1)) (gd l2 2).i.toNat 1 (.int (IntKind.wrap .i64 ((gd l2 1).i+1)))) (gd l2 2).i.toNat 2 (r5.fld 1)) (gd l2 2).i.toNat 3 (r6.fld 1))),(r6.fld 0),(.int (IntKind.wrap .i64 ((gd l2 2).i+1)))]
 else none
 else
 ou 1 [(gd l2 0),(gd l2 1)]) [a0,a1,(.int 0)]).bind fun o2=>
 sel2 o2.1 (ou 0 [(.pair (gd o2.2 1) (.pair (gd o2.2 0) .unit))]) fun _=>none):=by kernel_rfl
theorem zCM (a0 a1:D):z3g.F [a0,a1]=rn (
 (z4e.F [(a0.fld 2),a1]).bind fun r2=>
 ou 0 [(.pair (r2.fld 0) (.pair (D.mix (.pair .str (.pair (.int .i64) (.pair (.lst true (.pair (.int .i64) (.pair (.int .i64) (.pair (.lst true (.pair .str (.pair (.int .i64) (.pair (.int .i64) (.pair .str .unit))))) (.pair (.lst true (.pair .str (.pair (.int .i64) (.pair (.int .i64) (.pair .str .unit))))) .unit))))) .unit))) a0 (a0.setFld 2 (r2.fld 1))) .unit))]):=by kernel_rfl
theorem zFS (a0 a1:D):z4g.F [a0,a1]=rn (
 (z0Y (fun l2=>
 if (decide ((gd l2 2).i<((gd l2 0).l.length:Int)))then
 (z0a.F [(gd l2 1)]).bind fun r5=>
 if (inb (gd l2 2).i (gd l2 0).l.length)then
 (z0X.F [(((gd (D.lst (upd2 (upd2 (gd l2 0).l (gd l2 2).i.toNat 0 0 r5) (gd l2 2).i.toNat 0 1 (.int (IntKind.wrap .i64 ((gd l2 1).i+1))))).l (gd l2 2).i.toNat).fld 0).fld 2),(.int (IntKind.wrap .i64 ((IntKind.wrap .i64 ((gd l2 1).i+1))+1)))]).bind fun r6=>
 (z0a.F [(r6.fld 0)]).bind fun r7=>
 (z0X.F [(((gd (D.lst (upd2 (upd2 (upd2 (upd2 (upd2 (gd l2 0).l (gd l2 2).i.toNat 0 0 r5) (gd l2 2).i.toNat 0 1 (.int (IntKind.wrap .i64 ((gd l2 1).i+1)))) (gd l2 2).i.toNat 0 2 (r6.fld 1)) (gd l2 2).i.toNat 1 0 r7) (gd l2 2).i.toNat 1 1 (.int (IntKind.wrap .i64 ((r6.fld 0).i+1))))).l (gd l2 2).i.toNat).fld 1).fld 2),(.int (IntKind.wrap .i64 ((IntKind.wrap .i64 ((r6.fld 0).i+1))+1)))]).bind fun r8=>
 ou 0 [(D.lst (upd2 (upd2 (upd2 (upd2 (upd2 (upd2 (gd l2 0).l (gd l2 2).i.toNat 0 0 r5) (gd l2 2).i.toNat 0 1 (.int (IntKind.wrap .i64 ((gd l2 1).i+1)))) (gd l2 2).i.toNat 0 2 (r6.fld 1)) (gd l2 2).i.toNat 1 0 r7) (gd l2 2).i.toNat 1 1 (.int (IntKind.wrap .i64 ((r6.fld 0).i+1)))) (gd l2 2).i.toNat 1 2 (r8.fld 1))),(r8.fld 0),(.int (IntKind.wrap .i64 ((gd l2 2).i+1)))]
 else none
 else
 ou 1 [(gd l2 0),(gd l2 1)]) [a0,a1,(.int 0)]).bind fun o2=>
 sel2 o2.1 (ou 0 [(.pair (gd o2.2 1) (.pair (gd o2.2 0) .unit))]) fun _=>none):=by kernel_rfl
theorem z7s (a0 a1:D):z2w.F [a0,a1]=rn (
 (z0Y (fun l2=>
 if (decide ((gd l2 2).i<((gd l2 0).l.length:Int)))then
 if (inb (gd l2 2).i (gd l2 0).l.length)then
 if (3 != 0)then
 (z0a.F [(.int (IntKind.wrap .i64 ((IntKind.wrap .i64 ((gd l2 1).i+1))+1)))]).bind fun r5=>
 (z0X.F [(((gd (D.lst (upd2 (upd2 (upd (upd (gd l2 0).l (gd l2 2).i.toNat 0 (gd l2 1)) (gd l2 2).i.toNat 1 (.bool (((IntKind.wrap .i64 ((gd l2 1).i+1)).tmod 3)==0))) (gd l2 2).i.toNat 2 0 r5) (gd l2 2).i.toNat 2 1 (.int (IntKind.wrap .i64 ((IntKind.wrap .i64 ((IntKind.wrap .i64 ((gd l2 1).i+1))+1))+1))))).l (gd l2 2).i.toNat).fld 2).fld 2),(.int (IntKind.wrap .i64 ((IntKind.wrap .i64 ((IntKind.wrap .i64 ((IntKind.wrap .i64 ((gd l2 1).i+1))+1))+1))+1)))]).bind fun r6=>
 (z0X.F [(((gd (D.lst (upd2 (upd2 (upd2 (upd2 (upd2 (upd (upd (gd l2 0).l (gd l2 2).i.toNat 0 (gd l2 1)) (gd l2 2).i.toNat 1 (.bool (((IntKind.wrap .i64 ((gd l2 1).i+1)).tmod 3)==0))) (gd l2 2).i.toNat 2 0 r5) (gd l2 2).i.toNat 2 1 (.int (IntKind.wrap .i64 ((IntKind.wrap .i64 ((IntKind.wrap .i64 ((gd l2 1).i+1))+1))+1)))) (gd l2 2).i.toNat 2 2 (r6.fld 1)) (gd l2 2).i.toNat 3 0 (r6.fld 0)) (gd l2 2).i.toNat 3 1 (.int (IntKind.wrap .i64 ((r6.fld 0).i+1))))).l (gd l2 2).i.toNat).fld 3).fld 2),(.int (IntKind.wrap .i64 ((IntKind.wrap .i64 ((r6.fld 0).i+1))+1)))]).bind fun r7=>
 (z0X.F [(((gd (D.lst (upd2 (upd2 (upd2 (upd2 (upd2 (upd2 (upd (upd (gd l2 0).l (gd l2 2).i.toNat 0 (gd l2 1)) (gd l2 2).i.toNat 1 (.bool (((IntKind.wrap .i64 ((gd l2 1).i+1)).tmod 3)==0))) (gd l2 2).i.toNat 2 0 r5) (gd l2 2).i.toNat 2 1 (.int (IntKind.wrap .i64 ((IntKind.wrap .i64 ((IntKind.wrap .i64 ((gd l2 1).i+1))+1))+1)))) (gd l2 2).i.toNat 2 2 (r6.fld 1)) (gd l2 2).i.toNat 3 0 (r6.fld 0)) (gd l2 2).i.toNat 3 1 (.int (IntKind.wrap .i64 ((r6.fld 0).i+1)))) (gd l2 2).i.toNat 3 2 (r7.fld 1))).l (gd l2 2).i.toNat).fld 3).fld 3),(r7.fld 0)]).bind fun r8=>
 ou 0 [(D.lst (upd2 (upd2 (upd2 (upd2 (upd2 (upd2 (upd2 (upd (upd (gd l2 0).l (gd l2 2).i.toNat 0 (gd l2 1)) (gd l2 2).i.toNat 1 (.bool (((IntKind.wrap .i64 ((gd l2 1).i+1)).tmod 3)==0))) (gd l2 2).i.toNat 2 0 r5) (gd l2 2).i.toNat 2 1 (.int (IntKind.wrap .i64 ((IntKind.wrap .i64 ((IntKind.wrap .i64 ((gd l2 1).i+1))+1))+1)))) (gd l2 2).i.toNat 2 2 (r6.fld 1)) (gd l2 2).i.toNat 3 0 (r6.fld 0)) (gd l2 2).i.toNat 3 1 (.int (IntKind.wrap .i64 ((r6.fld 0).i+1)))) (gd l2 2).i.toNat 3 2 (r7.fld 1)) (gd l2 2).i.toNat 3 3 (r8.fld 1))),(r8.fld 0),(.int (IntKind.wrap .i64 ((gd l2 2).i+1)))]
 else none
 else none
 else
 ou 1 [(gd l2 0),(gd l2 1)]) [a0,a1,(.int 0)]).bind fun o2=>
 sel2 o2.1 (ou 0 [(.pair (gd o2.2 1) (.pair (gd o2.2 0) .unit))]) fun _=>none):=by kernel_rfl
theorem zFT (a0 a1:D):z3W.F [a0,a1]=rn (
 (z3f.F [(a0.fld 0),a1]).bind fun r2=>
 (z3g.F [(a0.fld 1),(r2.fld 0)]).bind fun r3=>
 (z4g.F [(a0.fld 2),(r3.fld 0)]).bind fun r4=>
 (z2w.F [(a0.fld 3),(r4.fld 0)]).bind fun r5=>
 ou 0 [(.pair (r5.fld 0) (.pair (D.mix (.pair (.pair (.pair .str (.pair (.int .i64) (.pair (.lst true (.pair .str (.pair (.int .i64) (.pair (.int .i64) (.pair .str .unit))))) .unit))) (.pair (.lst true (.pair (.int .i64) (.pair (.int .i64) (.pair (.int .i64) (.pair (.int .i64) .unit))))) (.pair (.int .i64) .unit))) (.pair (.pair .str (.pair (.int .i64) (.pair (.lst true (.pair (.int .i64) (.pair (.int .i64) (.pair (.lst true (.pair .str (.pair (.int .i64) (.pair (.int .i64) (.pair .str .unit))))) (.pair (.lst true (.pair .str (.pair (.int .i64) (.pair (.int .i64) (.pair .str .unit))))) .unit))))) .unit))) (.pair (.lst true (.pair (.pair .str (.pair (.int .i64) (.pair (.lst true (.pair .str (.pair (.int .i64) (.pair (.int .i64) (.pair .str .unit))))) .unit))) (.pair (.pair .str (.pair (.int .i64) (.pair (.lst true (.pair .str (.pair (.int .i64) (.pair (.int .i64) (.pair .str .unit))))) .unit))) .unit))) (.pair (.lst true (.pair (.int .i64) (.pair .bool (.pair (.pair .str (.pair (.int .i64) (.pair (.lst true (.pair .str (.pair (.int .i64) (.pair (.int .i64) (.pair .str .unit))))) .unit))) (.pair (.pair (.int .i64) (.pair (.int .i64) (.pair (.lst true (.pair .str (.pair (.int .i64) (.pair (.int .i64) (.pair .str .unit))))) (.pair (.lst true (.pair .str (.pair (.int .i64) (.pair (.int .i64) (.pair .str .unit))))) .unit)))) .unit))))) .unit)))) a0 ((((a0.setFld 0 (.pair (.pair (((a0.fld 0).fld 0).fld 0) (.pair (((a0.fld 0).fld 0).fld 1) (.pair (((r2.fld 1).fld 0).fld 2) .unit))) (.pair ((r2.fld 1).fld 1) (.pair ((a0.fld 0).fld 2) .unit)))).setFld 1 (.pair ((a0.fld 1).fld 0) (.pair ((a0.fld 1).fld 1) (.pair ((r3.fld 1).fld 2) .unit)))).setFld 2 (r4.fld 1)).setFld 3 (r5.fld 1))) .unit))]):=by kernel_rfl
theorem zCK (a0 a1:D):z0i.F [a0,a1]=rn (
 (z0Y (fun l2=>
 if (decide ((gd l2 1).i<(a0.l.length:Int)))then
 if (inb (gd l2 1).i a0.l.length)then
 (z0a.F [(gd l2 0)]).bind fun r4=>
 if (!(((gd a0.l (gd l2 1).i.toNat).fld 0).s==r4.s))then
 ou 1 [(.int (-1))]
 else
 if (((gd a0.l (gd l2 1).i.toNat).fld 1).i != (IntKind.wrap .i64 ((gd l2 0).i+1)))then
 ou 1 [(.int (-1))]
 else
 if (((gd a0.l (gd l2 1).i.toNat).fld 2).i != (IntKind.wrap .i64 ((IntKind.wrap .i64 ((gd l2 0).i+1))+1)))then
 ou 1 [(.int (-1))]
 else
 (z0a.F [(.int (IntKind.wrap .i64 ((IntKind.wrap .i64 ((IntKind.wrap .i64 ((gd l2 0).i+1))+1))+1)))]).bind fun r5=>
 if (!(((gd a0.l (gd l2 1).i.toNat).fld 3).s==r5.s))then
 ou 1 [(.int (-1))]
 else
 ou 0 [(.int (IntKind.wrap .i64 ((IntKind.wrap .i64 ((IntKind.wrap .i64 ((IntKind.wrap .i64 ((gd l2 0).i+1))+1))+1))+1))),(.int (IntKind.wrap .i64 ((gd l2 1).i+1)))]
 else none
 else
 ou 2 [(gd l2 0)]) [a1,(.int 0)]).bind fun o2=>
 sel2 o2.1 (ou 0 [(gd o2.2 0)]) fun n2=>
 sel2 n2 (ou 0 [(gd o2.2 0)]) fun _=>none):=by kernel_rfl
theorem zI0 (a0 a1:D):z5D.F [a0,a1]=rn (
 (z0i.F [(a0.fld 2),a1]).bind fun r2=>
 if (decide (r2.i<0))then
 ou 0 [(.int (-1))]
 else
 ou 0 [r2]):=by kernel_rfl
theorem zFN (a0 a1:D):z4c.F [a0,a1]=rn (
 (z0Y (fun l2=>
 if (decide ((gd l2 1).i<(a0.l.length:Int)))then
 if (inb (gd l2 1).i a0.l.length)then
 if (((gd a0.l (gd l2 1).i.toNat).fld 0).i != (gd l2 0).i)then
 ou 1 [(.int (-1))]
 else
 if (((gd a0.l (gd l2 1).i.toNat).fld 1).i != (IntKind.wrap .i64 ((gd l2 0).i+1)))then
 ou 1 [(.int (-1))]
 else
 if (((gd a0.l (gd l2 1).i.toNat).fld 2).i != (IntKind.wrap .i64 ((IntKind.wrap .i64 ((gd l2 0).i+1))+1)))then
 ou 1 [(.int (-1))]
 else
 if (((gd a0.l (gd l2 1).i.toNat).fld 3).i != (IntKind.wrap .i64 ((IntKind.wrap .i64 ((IntKind.wrap .i64 ((gd l2 0).i+1))+1))+1)))then
 ou 1 [(.int (-1))]
 else
 ou 0 [(.int (IntKind.wrap .i64 ((IntKind.wrap .i64 ((IntKind.wrap .i64 ((IntKind.wrap .i64 ((gd l2 0).i+1))+1))+1))+1))),(.int (IntKind.wrap .i64 ((gd l2 1).i+1)))]
 else none
 else
 ou 2 [(gd l2 0)]) [a1,(.int 0)]).bind fun o2=>
 sel2 o2.1 (ou 0 [(gd o2.2 0)]) fun n2=>
 sel2 n2 (ou 0 [(gd o2.2 0)]) fun _=>none):=by kernel_rfl
theorem zCH (a0 a1:D):z3c.F [a0,a1]=rn (
 (z5D.F [(a0.fld 0),a1]).bind fun r2=>
 if (decide (r2.i<0))then
 ou 0 [(.int (-1))]
 else
 (z4c.F [(a0.fld 1),r2]).bind fun r3=>
 if (decide (r3.i<0))then
 ou 0 [(.int (-1))]
 else
 ou 0 [r3]):=by kernel_rfl
theorem zFM (a0 a1:D):z4b.F [a0,a1]=rn (
 (z0Y (fun l2=>
 if (decide ((gd l2 1).i<(a0.l.length:Int)))then
 if (inb (gd l2 1).i a0.l.length)then
 if (((gd a0.l (gd l2 1).i.toNat).fld 0).i != (gd l2 0).i)then
 ou 1 [(.int (-1))]
 else
 if (((gd a0.l (gd l2 1).i.toNat).fld 1).i != (IntKind.wrap .i64 ((gd l2 0).i+1)))then
 ou 1 [(.int (-1))]
 else
 (z0i.F [((gd a0.l (gd l2 1).i.toNat).fld 2),(.int (IntKind.wrap .i64 ((IntKind.wrap .i64 ((gd l2 0).i+1))+1)))]).bind fun r4=>
 if (decide (r4.i<0))then
 ou 1 [(.int (-1))]
 else
 (z0i.F [((gd a0.l (gd l2 1).i.toNat).fld 3),r4]).bind fun r5=>
 if (decide (r5.i<0))then
 ou 1 [(.int (-1))]
 else
 ou 0 [r5,(.int (IntKind.wrap .i64 ((gd l2 1).i+1)))]
 else none
 else
 ou 2 [(gd l2 0)]) [a1,(.int 0)]).bind fun o2=>
 sel2 o2.1 (ou 0 [(gd o2.2 0)]) fun n2=>
 sel2 n2 (ou 0 [(gd o2.2 0)]) fun _=>none):=by kernel_rfl
theorem zCI (a0 a1:D):z3d.F [a0,a1]=rn (
 (z4b.F [(a0.fld 2),a1]).bind fun r2=>
 if (decide (r2.i<0))then
 ou 0 [(.int (-1))]
 else
 ou 0 [r2]):=by kernel_rfl
theorem zFO (a0 a1:D):z4d.F [a0,a1]=rn (
 (z0Y (fun l2=>
 if (decide ((gd l2 1).i<(a0.l.length:Int)))then
 if (inb (gd l2 1).i a0.l.length)then
 (z0a.F [(gd l2 0)]).bind fun r4=>
 if (!((((gd a0.l (gd l2 1).i.toNat).fld 0).fld 0).s==r4.s))then
 ou 1 [(.int (-1))]
 else
 if ((((gd a0.l (gd l2 1).i.toNat).fld 0).fld 1).i != (IntKind.wrap .i64 ((gd l2 0).i+1)))then
 ou 1 [(.int (-1))]
 else
 (z0i.F [(((gd a0.l (gd l2 1).i.toNat).fld 0).fld 2),(.int (IntKind.wrap .i64 ((IntKind.wrap .i64 ((gd l2 0).i+1))+1)))]).bind fun r5=>
 if (decide (r5.i<0))then
 ou 1 [(.int (-1))]
 else
 (z0a.F [r5]).bind fun r6=>
 if (!((((gd a0.l (gd l2 1).i.toNat).fld 1).fld 0).s==r6.s))then
 ou 1 [(.int (-1))]
 else
 if ((((gd a0.l (gd l2 1).i.toNat).fld 1).fld 1).i != (IntKind.wrap .i64 (r5.i+1)))then
 ou 1 [(.int (-1))]
 else
 (z0i.F [(((gd a0.l (gd l2 1).i.toNat).fld 1).fld 2),(.int (IntKind.wrap .i64 ((IntKind.wrap .i64 (r5.i+1))+1)))]).bind fun r7=>
 if (decide (r7.i<0))then
 ou 1 [(.int (-1))]
 else
 ou 0 [r7,(.int (IntKind.wrap .i64 ((gd l2 1).i+1)))]
 else none
 else
 ou 2 [(gd l2 0)]) [a1,(.int 0)]).bind fun o2=>
 sel2 o2.1 (ou 0 [(gd o2.2 0)]) fun n2=>
 sel2 n2 (ou 0 [(gd o2.2 0)]) fun _=>none):=by kernel_rfl
theorem zCJ (a0 a1:D):z3e.F [a0,a1]=rn (
 (z0Y (fun l2=>
 if (decide ((gd l2 1).i<(a0.l.length:Int)))then
 if (inb (gd l2 1).i a0.l.length)then
 if (((gd a0.l (gd l2 1).i.toNat).fld 0).i != (gd l2 0).i)then
 ou 1 [(.int (-1))]
 else
 if (3 != 0)then
 if (!(((gd a0.l (gd l2 1).i.toNat).fld 1).b==(((IntKind.wrap .i64 ((gd l2 0).i+1)).tmod 3)==0)))then
 ou 1 [(.int (-1))]
 else
 (z0a.F [(.int (IntKind.wrap .i64 ((IntKind.wrap .i64 ((gd l2 0).i+1))+1)))]).bind fun r4=>
 if (!((((gd a0.l (gd l2 1).i.toNat).fld 2).fld 0).s==r4.s))then
 ou 1 [(.int (-1))]
 else
 if ((((gd a0.l (gd l2 1).i.toNat).fld 2).fld 1).i != (IntKind.wrap .i64 ((IntKind.wrap .i64 ((IntKind.wrap .i64 ((gd l2 0).i+1))+1))+1)))then
 ou 1 [(.int (-1))]
 else
 (z0i.F [(((gd a0.l (gd l2 1).i.toNat).fld 2).fld 2),(.int (IntKind.wrap .i64 ((IntKind.wrap .i64 ((IntKind.wrap .i64 ((IntKind.wrap .i64 ((gd l2 0).i+1))+1))+1))+1)))]).bind fun r5=>
 if (decide (r5.i<0))then
 ou 1 [(.int (-1))]
 else
 if ((((gd a0.l (gd l2 1).i.toNat).fld 3).fld 0).i != r5.i)then
 ou 1 [(.int (-1))]
 else
 if ((((gd a0.l (gd l2 1).i.toNat).fld 3).fld 1).i != (IntKind.wrap .i64 (r5.i+1)))then
 ou 1 [(.int (-1))]
 else
 (z0i.F [(((gd a0.l (gd l2 1).i.toNat).fld 3).fld 2),(.int (IntKind.wrap .i64 ((IntKind.wrap .i64 (r5.i+1))+1)))]).bind fun r6=>
 if (decide (r6.i<0))then
 ou 1 [(.int (-1))]
 else
 (z0i.F [(((gd a0.l (gd l2 1).i.toNat).fld 3).fld 3),r6]).bind fun r7=>
 if (decide (r7.i<0))then
 ou 1 [(.int (-1))]
 else
 ou 0 [r7,(.int (IntKind.wrap .i64 ((gd l2 1).i+1)))]
 else none
 else none
 else
 ou 2 [(gd l2 0)]) [a1,(.int 0)]).bind fun o2=>
 sel2 o2.1 (ou 0 [(gd o2.2 0)]) fun n2=>
 sel2 n2 (ou 0 [(gd o2.2 0)]) fun _=>none):=by kernel_rfl
theorem zFP (a0 a1:D):z3V.F [a0,a1]=rn (
 (z3c.F [(a0.fld 0),a1]).bind fun r2=>
 if (decide (r2.i<0))then
 ou 0 [(.int (-1))]
 else
 (z3d.F [(a0.fld 1),r2]).bind fun r3=>
 if (decide (r3.i<0))then
 ou 0 [(.int (-1))]
 else
 (z4d.F [(a0.fld 2),r3]).bind fun r4=>
 if (decide (r4.i<0))then
 ou 0 [(.int (-1))]
 else
 (z3e.F [(a0.fld 3),r4]).bind fun r5=>
 if (decide (r5.i<0))then
 ou 0 [(.int (-1))]
 else
 ou 0 [r5]):=by kernel_rfl
theorem z87 (a0:D):z3o.F [a0]=rn (
 (z5i.F [a0,(.int 1048576)]).bind fun r1=>
 if (decide (r1.i<0))then
 ou 0 [(.bool true)]
 else
 (z36.F [a0]).bind fun r2=>
 (z3j.F [r2]).bind fun r3=>
 (z36.F [a0]).bind fun r4=>
 (z2u.F [r4]).bind fun r5=>
 ((z2T.F [(r5.fld 0),(r3.fld 0)]).bind fun r6=>
 if (!r6.b)then
 ou 0 [(.bool true)]
 else
 if ((r5.fld 1).i != (r3.fld 1).i)then
 ou 0 [(.bool true)]
 else
 ou 0 [(.bool (!((r5.fld 2).b==(r3.fld 2).b)))]).bind fun o6=>
 sel2 o6.1 (if (gd o6.2 0).b then
 ou 0 [(.bool false)]
 else
 (z36.F [a0]).bind fun r7=>
 (z2T.F [r4,r7]).bind fun r8=>
 if (!r8.b)then
 ou 0 [(.bool false)]
 else
 (z3W.F [r4,(.int 1)]).bind fun r9=>
 (if (decide ((r9.fld 0).i<0))then
 ou 0 [(.bool true)]
 else
 (z2T.F [(r5.fld 0),(r3.fld 0)]).bind fun r10=>
 if (!r10.b)then
 ou 0 [(.bool true)]
 else
 if ((r5.fld 1).i != (r3.fld 1).i)then
 ou 0 [(.bool true)]
 else
 ou 0 [(.bool (!((r5.fld 2).b==(r3.fld 2).b)))]).bind fun o10=>
 sel2 o10.1 (if (gd o10.2 0).b then
 ou 0 [(.bool false)]
 else
 (z3W.F [(r5.fld 0),(.int 1)]).bind fun r11=>
 (z3V.F [(.pair (.pair (.pair ((((r5.fld 0).fld 0).fld 0).fld 0) (.pair ((((r5.fld 0).fld 0).fld 0).fld 1) (.pair ((((r11.fld 1).fld 0).fld 0).fld 2) .unit))) (.pair (((r11.fld 1).fld 0).fld 1) (.pair (((r5.fld 0).fld 0).fld 2) .unit))) (.pair (.pair (((r5.fld 0).fld 1).fld 0) (.pair (((r5.fld 0).fld 1).fld 1) (.pair (((r11.fld 1).fld 1).fld 2) .unit))) (.pair ((r11.fld 1).fld 2) (.pair ((r11.fld 1).fld 3) .unit)))),(.int 1)]).bind fun r12=>
 if (decide (r12.i<0))then
 ou 0 [(.bool false)]
 else
 if (r12.i != (r11.fld 0).i)then
 ou 0 [(.bool false)]
 else
 (z36.F [a0]).bind fun r13=>
 (z2u.F [r13]).bind fun r14=>
 ((z2T.F [(r14.fld 0),(r3.fld 0)]).bind fun r15=>
 if (!r15.b)then
 ou 0 [(.bool true)]
 else
 if ((r14.fld 1).i != (r3.fld 1).i)then
 ou 0 [(.bool true)]
 else
 ou 0 [(.bool (!((r14.fld 2).b==(r3.fld 2).b)))]).bind fun o15=>
 sel2 o15.1 (if (gd o15.2 0).b then
 ou 0 [(.bool false)]
 else
 (z3V.F [(.pair (.pair (.pair ((((r5.fld 0).fld 0).fld 0).fld 0) (.pair ((((r5.fld 0).fld 0).fld 0).fld 1) (.pair ((((r11.fld 1).fld 0).fld 0).fld 2) .unit))) (.pair (((r11.fld 1).fld 0).fld 1) (.pair (((r5.fld 0).fld 0).fld 2) .unit))) (.pair (.pair (((r5.fld 0).fld 1).fld 0) (.pair (((r5.fld 0).fld 1).fld 1) (.pair (((r11.fld 1).fld 1).fld 2) .unit))) (.pair ((r11.fld 1).fld 2) (.pair ((r11.fld 1).fld 3) .unit)))),(.int 1)]).bind fun r16=>
 if (decide (r16.i<0))then
 ou 0 [(.bool false)]
 else
 if (r16.i != (r11.fld 0).i)then
 ou 0 [(.bool false)]
 else
 ou 0 [(.bool true)]) fun _=>none) fun _=>none) fun _=>none):=by kernel_rfl
end Go.Proofs.YtcnjllnhfoiojaaGreatDoor
