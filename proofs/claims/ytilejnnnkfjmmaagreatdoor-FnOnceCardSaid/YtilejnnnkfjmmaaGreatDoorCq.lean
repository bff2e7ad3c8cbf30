/- What each function gives, told as plain code. -/
import Derived.Test.YtilejnnnkfjmmaaGreatDoorC
set_option linter.unusedSectionVars false
set_option linter.unusedVariables false
set_option linter.unusedSimpArgs false
namespace Go.Proofs.YtilejnnnkfjmmaaGreatDoor
open Go Go.Own
set_option maxRecDepth 100000
theorem zI1 (a0 a1:D):z1N.F [a0,a1]=rn (
 (z0d (fun l2=>
 if (decide ((gd l2 2).i<(a0.s.length:Int)))then
 (if (inb (gd l2 2).i a0.s.length)then
 if ((byteAt a0.s (gd l2 2).i.toNat:Int)==a1.i)then
 if (slOk (gd l2 1).i (gd l2 2).i (a0.s.length:Int))then
 if (appOk 16 (gd l2 0).l ((.str ((a0.s.take (gd l2 2).i.toNat).drop (gd l2 1).i.toNat))::([]:List D)))then
 ou 0 [(D.lst ((gd l2 0).l++((.str ((a0.s.take (gd l2 2).i.toNat).drop (gd l2 1).i.toNat))::([]:List D)))),(.int (IntKind.wrap .i64 ((gd l2 2).i+1)))]
 else none
 else none
 else
 ou 0 [(gd l2 0),(gd l2 1)]
 else none).bind fun o5=>
 sel2 o5.1 (ou 0 [(gd o5.2 0),(gd o5.2 1),(.int (IntKind.wrap .i64 ((gd l2 2).i+1)))]) fun _=>none
 else
 ou 1 [(gd l2 0),(gd l2 1)]) [(D.lst []),(.int 0),(.int 0)]).bind fun o2=>
 sel2 o2.1 (if (slOk (gd o2.2 1).i (a0.s.length:Int) (a0.s.length:Int))then
 if (appOk 16 (gd o2.2 0).l ((.str ((a0.s.take (a0.s.length:Int).toNat).drop (gd o2.2 1).i.toNat))::([]:List D)))then
 ou 0 [(D.lst ((gd o2.2 0).l++((.str ((a0.s.take (a0.s.length:Int).toNat).drop (gd o2.2 1).i.toNat))::([]:List D))))]
 else none
 else none) fun _=>none):=by kernel_rfl
theorem zMv (a0 a1 a2:D):z0i.F [a0,a1,a2]=rn (
 (if (decide (a0.i >= a1.i))then
 ou 0 [(.bool (decide (a0.i<=a2.i)))]
 else
 ou 0 [(.bool false)]).bind fun o3=>
 sel2 o3.1 (ou 0 [(gd o3.2 0)]) fun _=>none):=by kernel_rfl
theorem zLV (a0:D):z1E.F [a0]=rn (
 ((z0i.F [(.int (a0.s.length:Int)),(.int 1),(.int 10)]).bind fun r1=>
 if (!r1.b)then
 ou 0 [(.bool true)]
 else
 if (inb 0 a0.s.length)then
 if ((byteAt a0.s 0:Int)==48)then
 ou 0 [(.bool (decide ((a0.s.length:Int) > 1)))]
 else
 ou 0 [(.bool false)]
 else none).bind fun o1=>
 sel2 o1.1 (if (gd o1.2 0).b then
 ou 0 [(.int (-1))]
 else
 (z0d (fun l2=>
 if (decide ((gd l2 1).i<(a0.s.length:Int)))then
 (if (inb (gd l2 1).i a0.s.length)then
 if (decide ((byteAt a0.s (gd l2 1).i.toNat:Int)<48))then
 ou 0 [(.bool true)]
 else
 ou 0 [(.bool (decide ((byteAt a0.s (gd l2 1).i.toNat:Int) > 57)))]
 else none).bind fun o4=>
 sel2 o4.1 (if (gd o4.2 0).b then
 ou 1 [(.int (-1))]
 else
 if (inb (gd l2 1).i a0.s.length)then
 ou 0 [(.int (IntKind.wrap .i64 ((IntKind.wrap .i64 (10*(gd l2 0).i))+(IntKind.wrap .i64 (IntKind.wrap .u8 ((byteAt a0.s (gd l2 1).i.toNat:Int)-48)))))),(.int (IntKind.wrap .i64 ((gd l2 1).i+1)))]
 else none) fun _=>none
 else
 ou 2 [(gd l2 0)]) [(.int 0),(.int 0)]).bind fun o2=>
 sel2 o2.1 (ou 0 [(gd o2.2 0)]) fun n6=>
 sel2 n6 (ou 0 [(gd o2.2 0)]) fun _=>none) fun _=>none):=by kernel_rfl
theorem z7V (a0 a1:D):z1a.F [a0,a1]=rn (
 if (makeOk 1 a1.i)then
 (z0d (fun l2=>
 if (decide ((gd l2 2).i >= 0))then
 if (inb (gd l2 2).i (gd l2 1).l.length)then
 if (decide (0<=8))then
 ou 0 [(.int ((gd l2 0).i.fdiv (2 ^ min 8 (IntKind.bits .i64)))),(D.lst ((gd l2 1).l.set (gd l2 2).i.toNat (.int (IntKind.wrap .u8 (gd l2 0).i)))),(.int (IntKind.wrap .i64 ((gd l2 2).i-1)))]
 else none
 else none
 else
 ou 1 [(gd l2 1)]) [a0,(D.lst (List.replicate a1.i.toNat ((.int 0):D))),(.int (IntKind.wrap .i64 (a1.i-1)))]).bind fun o2=>
 sel2 o2.1 (ou 0 [(.str (z0k (gd o2.2 0).l))]) fun _=>none
 else none):=by kernel_rfl
theorem zI0 (a0:D):z3p.F [a0]=rn (
 if (a0.s==([42]:List UInt8))then
 ou 0 [(.bool true)]
 else
 (z0d (fun l1=>
 if (decide ((gd l1 0).i<(a0.s.length:Int)))then
 if (inb (gd l1 0).i a0.s.length)then
 (if (decide ((byteAt a0.s (gd l1 0).i.toNat:Int) >= 97))then
 if (decide ((byteAt a0.s (gd l1 0).i.toNat:Int)<=122))then
 ou 0 [(.bool (!true))]
 else
 if (decide ((byteAt a0.s (gd l1 0).i.toNat:Int) >= 48))then
 if (decide ((byteAt a0.s (gd l1 0).i.toNat:Int)<=57))then
 ou 0 [(.bool (!true))]
 else
 if ((byteAt a0.s (gd l1 0).i.toNat:Int)==45)then
 ou 0 [(.bool (!true))]
 else
 ou 0 [(.bool (!((byteAt a0.s (gd l1 0).i.toNat:Int)==95)))]
 else
 if ((byteAt a0.s (gd l1 0).i.toNat:Int)==45)then
 ou 0 [(.bool (!true))]
 else
 ou 0 [(.bool (!((byteAt a0.s (gd l1 0).i.toNat:Int)==95)))]
 else
 if (decide ((byteAt a0.s (gd l1 0).i.toNat:Int) >= 48))then
 if (decide ((byteAt a0.s (gd l1 0).i.toNat:Int)<=57))then
 ou 0 [(.bool (!true))]
 else
 if ((byteAt a0.s (gd l1 0).i.toNat:Int)==45)then
 ou 0 [(.bool (!true))]
 else
 ou 0 [(.bool (!((byteAt a0.s (gd l1 0).i.toNat:Int)==95)))]
 else
 if ((byteAt a0.s (gd l1 0).i.toNat:Int)==45)then
 ou 0 [(.bool (!true))]
 else
 ou 0 [(.bool (!((byteAt a0.s (gd l1 0).i.toNat:Int)==95)))]).bind fun o2=>
 sel2 o2.1 (if (gd o2.2 0).b then
 ou 1 []
 else
 ou 0 [(.int (IntKind.wrap .i64 ((gd l1 0).i+1)))]) fun _=>none
 else none
 else
 ou 2 []) [(.int 0)]).bind fun o1=>
 sel2 o1.1 (ou 0 [(.bool false)]) fun n4=>
 sel2 n4 ((z0i.F [(.int (a0.s.length:Int)),(.int 1),(.int 20)]).bind fun r1=>
 ou 0 [r1]) fun _=>none):=by kernel_rfl
theorem zGs (a0:D):z0t.F [a0]=rn (
 if (a0.s==([]:List UInt8))then
 ou 0 [(.pair (D.lst []) (.pair (.bool true) .unit))]
 else
 (z1N.F [a0,(.int 46)]).bind fun r1=>
 (z0d (fun l2=>
 if (decide ((gd l2 0).i<(r1.l.length:Int)))then
 if (inb (gd l2 0).i r1.l.length)then
 (z3p.F [(gd r1.l (gd l2 0).i.toNat)]).bind fun r3=>
 if (!r3.b)then
 ou 1 []
 else
 ou 0 [(.int (IntKind.wrap .i64 ((gd l2 0).i+1)))]
 else none
 else
 ou 2 []) [(.int 0)]).bind fun o2=>
 sel2 o2.1 (ou 0 [(.pair (D.lst []) (.pair (.bool false) .unit))]) fun n4=>
 sel2 n4 ((if (decide ((a0.s.length:Int)<=60))then
 ou 0 [r1,(.bool (decide ((r1.l.length:Int)<=8)))]
 else
 ou 0 [r1,(.bool false)]).bind fun o2=>
 sel2 o2.1 (ou 0 [(.pair (gd o2.2 0) (.pair (gd o2.2 1) .unit))]) fun _=>none) fun _=>none):=by kernel_rfl
theorem zGu (a0:D):z4B.F [a0]=rn (
 (z0t.F [a0]).bind fun r1=>
 (z0d (fun l2=>
 if (decide ((gd l2 1).i<((r1.fld 0).l.length:Int)))then
 (if (inb (gd l2 1).i (r1.fld 0).l.length)then
 if (gd l2 0).b then
 ou 0 [(.bool (!((gd (r1.fld 0).l (gd l2 1).i.toNat).s==([42]:List UInt8))))]
 else
 ou 0 [(.bool false)]
 else none).bind fun o4=>
 sel2 o4.1 (ou 0 [(gd o4.2 0),(.int (IntKind.wrap .i64 ((gd l2 1).i+1)))]) fun _=>none
 else
 ou 1 [(gd l2 0)]) [(r1.fld 1),(.int 0)]).bind fun o2=>
 sel2 o2.1 ((if (gd o2.2 0).b then
 ou 0 [(.bool (!(a0.s==([]:List UInt8))))]
 else
 ou 0 [(.bool false)]).bind fun o3=>
 sel2 o3.1 (ou 0 [(gd o3.2 0)]) fun _=>none) fun _=>none):=by kernel_rfl
theorem zAd (a0:D):z3q.F [a0]=rn (
 (z0t.F [a0]).bind fun r1=>
 (z0d (fun l2=>
 if (decide ((gd l2 1).i<((r1.fld 0).l.length:Int)))then
 if (inb (gd l2 1).i (r1.fld 0).l.length)then
 if (catOk (z0k ((.int (IntKind.wrap .u8 ((gd (r1.fld 0).l (gd l2 1).i.toNat).s.length:Int)))::([]:List D))) (gd (r1.fld 0).l (gd l2 1).i.toNat).s)then
 if (catOk (gd l2 0).s ((z0k ((.int (IntKind.wrap .u8 ((gd (r1.fld 0).l (gd l2 1).i.toNat).s.length:Int)))::([]:List D)))++(gd (r1.fld 0).l (gd l2 1).i.toNat).s))then
 ou 0 [(.str ((gd l2 0).s++((z0k ((.int (IntKind.wrap .u8 ((gd (r1.fld 0).l (gd l2 1).i.toNat).s.length:Int)))::([]:List D)))++(gd (r1.fld 0).l (gd l2 1).i.toNat).s))),(.int (IntKind.wrap .i64 ((gd l2 1).i+1)))]
 else none
 else none
 else none
 else
 ou 1 [(gd l2 0)]) [(D.str []),(.int 0)]).bind fun o2=>
 sel2 o2.1 (if (catOk (gd o2.2 0).s ([0]:List UInt8))then
 ou 0 [(.str ((gd o2.2 0).s++([0]:List UInt8)))]
 else none) fun _=>none):=by kernel_rfl
theorem z6W (a0 a1:D):z1c.F [a0,a1]=rn (
 if (a0.i==1)then
 (z1N.F [a1,(.int 46)]).bind fun r2=>
 (z0d (fun l3=>
 if (decide ((gd l3 1).i<(r2.l.length:Int)))then
 if (inb (gd l3 1).i r2.l.length)then
 (z1E.F [(gd r2.l (gd l3 1).i.toNat)]).bind fun r5=>
 (z0i.F [r5,(.int 0),(.int 255)]).bind fun r6=>
 if (!r6.b)then
 ou 1 []
 else
 (z1a.F [r5,(.int 1)]).bind fun r7=>
 if (catOk (gd l3 0).s r7.s)then
 ou 0 [(.str ((gd l3 0).s++r7.s)),(.int (IntKind.wrap .i64 ((gd l3 1).i+1)))]
 else none
 else none
 else
 ou 2 [(gd l3 0)]) [(D.str []),(.int 0)]).bind fun o3=>
 sel2 o3.1 (ou 0 [(.pair (D.str []) (.pair (.bool false) .unit))]) fun n4=>
 sel2 n4 (ou 0 [(.pair (gd o3.2 0) (.pair (.bool ((r2.l.length:Int)==4)) .unit))]) fun _=>none
 else
 (if (a0.i==2)then
 ou 0 [(.bool (a0.i==2))]
 else
 ou 0 [(.bool (a0.i==5))]).bind fun o2=>
 sel2 o2.1 (if (gd o2.2 0).b then
 (z4B.F [a1]).bind fun r3=>
 if (!r3.b)then
 ou 0 [(.pair (D.str []) (.pair (.bool false) .unit))]
 else
 (z3q.F [a1]).bind fun r4=>
 ou 0 [(.pair r4 (.pair (.bool true) .unit))]
 else
 if (a0.i==6)then
 (z1E.F [a1]).bind fun r3=>
 (z1a.F [r3,(.int 4)]).bind fun r4=>
 (z0i.F [r3,(.int 0),(.int 4294967295)]).bind fun r5=>
 ou 0 [(.pair r4 (.pair r5 .unit))]
 else
 if (a0.i==15)then
 (z1N.F [a1,(.int 32)]).bind fun r3=>
 (if ((r3.l.length:Int) != 2)then
 ou 0 [(.bool true)]
 else
 if (inb 0 r3.l.length)then
 (z1E.F [(gd r3.l 0)]).bind fun r4=>
 (z0i.F [r4,(.int 0),(.int 65535)]).bind fun r5=>
 if (!r5.b)then
 ou 0 [(.bool true)]
 else
 if (inb 1 r3.l.length)then
 (z4B.F [(gd r3.l 1)]).bind fun r6=>
 ou 0 [(.bool (!r6.b))]
 else none
 else none).bind fun o4=>
 sel2 o4.1 (if (gd o4.2 0).b then
 ou 0 [(.pair (D.str []) (.pair (.bool false) .unit))]
 else
 if (inb 0 r3.l.length)then
 (z1E.F [(gd r3.l 0)]).bind fun r5=>
 (z1a.F [r5,(.int 2)]).bind fun r6=>
 if (inb 1 r3.l.length)then
 (z3q.F [(gd r3.l 1)]).bind fun r7=>
 if (catOk r6.s r7.s)then
 ou 0 [(.pair (.str (r6.s++r7.s)) (.pair (.bool true) .unit))]
 else none
 else none
 else none) fun _=>none
 else
 if (a0.i==16)then
 (z0d (fun l3=>
 if (decide ((gd l3 0).i<(a1.s.length:Int)))then
 (if (inb (gd l3 0).i a1.s.length)then
 if (decide ((byteAt a1.s (gd l3 0).i.toNat:Int)<32))then
 ou 0 [(.bool true)]
 else
 ou 0 [(.bool (decide ((byteAt a1.s (gd l3 0).i.toNat:Int) > 126)))]
 else none).bind fun o4=>
 sel2 o4.1 (if (gd o4.2 0).b then
 ou 1 [(D.str []),(.bool false)]
 else
 ou 0 [(.int (IntKind.wrap .i64 ((gd l3 0).i+1)))]) fun _=>none
 else
 ou 2 []) [(.int 0)]).bind fun o3=>
 sel2 o3.1 (ou 0 [(.pair (gd o3.2 0) (.pair (gd o3.2 1) .unit))]) fun n14=>
 sel2 n14 (if (catOk (z0k ((.int (IntKind.wrap .u8 (a1.s.length:Int)))::([]:List D))) a1.s)then
 ou 0 [(.pair (.str ((z0k ((.int (IntKind.wrap .u8 (a1.s.length:Int)))::([]:List D)))++a1.s)) (.pair (.bool (decide ((a1.s.length:Int)<=30))) .unit))]
 else none) fun _=>none
 else
 ou 0 [(.pair (D.str []) (.pair (.bool false) .unit))]) fun _=>none):=by kernel_rfl
theorem zGp (a0:D):z4s.F [a0]=rn (
 (z0t.F [a0]).bind fun r1=>
 ou 0 [(r1.fld 1)]):=by kernel_rfl
theorem zDO (a0:D):z1g.F [a0]=rn (
 (z1c.F [(a0.fld 1),(a0.fld 3)]).bind fun r1=>
 (if (r1.fld 1).b then
 (z4s.F [(a0.fld 0)]).bind fun r2=>
 if r2.b then
 (z0i.F [(a0.fld 2),(.int 0),(.int 100000)]).bind fun r3=>
 ou 0 [r3]
 else
 ou 0 [(.bool false)]
 else
 ou 0 [(.bool false)]).bind fun o2=>
 sel2 o2.1 (ou 0 [(gd o2.2 0)]) fun _=>none):=by kernel_rfl
theorem zLW (k:Nat) (a0:D):z4d (k+1) [a0]=rn (
 if (decide (a0.i<10))then
 ou 0 [(.str (z0k ((.int (IntKind.wrap .u8 (IntKind.wrap .i64 (48+a0.i))))::([]:List D))))]
 else
 if (10 != 0)then
 (z4d k [(.int (IntKind.wrap .i64 (a0.i.tdiv 10)))]).bind fun r1=>
 if (catOk r1.s (z0k ((.int (IntKind.wrap .u8 (IntKind.wrap .i64 (48+(a0.i.tmod 10)))))::([]:List D))))then
 ou 0 [(.str (r1.s++(z0k ((.int (IntKind.wrap .u8 (IntKind.wrap .i64 (48+(a0.i.tmod 10)))))::([]:List D)))))]
 else none
 else none):=by kernel_rfl
theorem zJp (a0:D):z4L.F [a0]=rn (
 (if ((a0.fld 0).s==([]:List UInt8))then
 ou 0 [(D.str [46])]
 else
 ou 0 [(a0.fld 0)]).bind fun o1=>
 sel2 o1.1 (if (catOk (gd o1.2 0).s ([32]:List UInt8))then
 (z1Z.F [(a0.fld 2)]).bind fun r2=>
 if (catOk ((gd o1.2 0).s++([32]:List UInt8)) r2.s)then
 if (catOk (((gd o1.2 0).s++([32]:List UInt8))++r2.s) ([32]:List UInt8))then
 (z1Z.F [(a0.fld 1)]).bind fun r3=>
 if (catOk ((((gd o1.2 0).s++([32]:List UInt8))++r2.s)++([32]:List UInt8)) r3.s)then
 if (catOk (((((gd o1.2 0).s++([32]:List UInt8))++r2.s)++([32]:List UInt8))++r3.s) ([32]:List UInt8))then
 if (catOk ((((((gd o1.2 0).s++([32]:List UInt8))++r2.s)++([32]:List UInt8))++r3.s)++([32]:List UInt8)) (a0.fld 3).s)then
 ou 0 [(.str (((((((gd o1.2 0).s++([32]:List UInt8))++r2.s)++([32]:List UInt8))++r3.s)++([32]:List UInt8))++(a0.fld 3).s))]
 else none
 else none
 else none
 else none
 else none
 else none) fun _=>none):=by kernel_rfl
theorem zDQ (a0:D):z49.F [a0]=rn (
 (z1N.F [a0,(.int 32)]).bind fun r1=>
 if (decide ((r1.l.length:Int)<4))then
 ou 0 [(.pair (.pair (.str []) (.pair (.int 0) (.pair (.int 0) (.pair (.str []) .unit)))) (.pair (.bool false) .unit))]
 else
 if (inb 0 r1.l.length)then
 if (inb 1 r1.l.length)then
 (z1E.F [(gd r1.l 1)]).bind fun r2=>
 if (inb 2 r1.l.length)then
 (z1E.F [(gd r1.l 2)]).bind fun r3=>
 if (slOk (IntKind.wrap .i64 ((IntKind.wrap .i64 ((IntKind.wrap .i64 (((gd r1.l 0).s.length:Int)+((gd r1.l 1).s.length:Int)))+((gd r1.l 2).s.length:Int)))+3)) (a0.s.length:Int) (a0.s.length:Int))then
 (if ((gd r1.l 0).s==([46]:List UInt8))then
 ou 0 [(.pair (D.str []) (.pair r3 (.pair r2 (.pair (.str ((a0.s.take (a0.s.length:Int).toNat).drop (IntKind.wrap .i64 ((IntKind.wrap .i64 ((IntKind.wrap .i64 (((gd r1.l 0).s.length:Int)+((gd r1.l 1).s.length:Int)))+((gd r1.l 2).s.length:Int)))+3)).toNat)) .unit))))]
 else
 ou 0 [(.pair (gd r1.l 0) (.pair r3 (.pair r2 (.pair (.str ((a0.s.take (a0.s.length:Int).toNat).drop (IntKind.wrap .i64 ((IntKind.wrap .i64 ((IntKind.wrap .i64 (((gd r1.l 0).s.length:Int)+((gd r1.l 1).s.length:Int)))+((gd r1.l 2).s.length:Int)))+3)).toNat)) .unit))))]).bind fun o4=>
 sel2 o4.1 (((z1g.F [(gd o4.2 0)]).bind fun r5=>
 if (!r5.b)then
 ou 0 [(.bool true)]
 else
 (z4L.F [(gd o4.2 0)]).bind fun r6=>
 ou 0 [(.bool (!(r6.s==a0.s)))]).bind fun o5=>
 sel2 o5.1 (if (gd o5.2 0).b then
 ou 0 [(.pair (.pair (.str []) (.pair (.int 0) (.pair (.int 0) (.pair (.str []) .unit)))) (.pair (.bool false) .unit))]
 else
 ou 0 [(.pair (gd o4.2 0) (.pair (.bool true) .unit))]) fun _=>none) fun _=>none
 else none
 else none
 else none
 else none):=by kernel_rfl
theorem zCE (a0 a1:D):z2i.F [a0,a1]=rn (
 ((z0i.F [a0,(.int 0),(.int 100)]).bind fun r2=>
 if r2.b then
 (z0i.F [a1,(.int 1),(.int 1000)]).bind fun r3=>
 ou 0 [r3]
 else
 ou 0 [(.bool false)]).bind fun o2=>
 sel2 o2.1 (ou 0 [(gd o2.2 0)]) fun _=>none):=by kernel_rfl
theorem zAe (a0:D):z3E.F [a0]=rn (
 (z0d (fun l1=>
 if (decide ((gd l1 0).i<(a0.l.length:Int)))then
 if (inb (gd l1 0).i a0.l.length)then
 ((z0i.F [((gd a0.l (gd l1 0).i.toNat).fld 0),(.int 1),(.int 4)]).bind fun r2=>
 if (!r2.b)then
 ou 0 [(.bool true)]
 else
 (z1g.F [((gd a0.l (gd l1 0).i.toNat).fld 1)]).bind fun r3=>
 if (!r3.b)then
 ou 0 [(.bool true)]
 else
 ou 0 [(.bool ((((gd a0.l (gd l1 0).i.toNat).fld 1).fld 1).i==6))]).bind fun o2=>
 sel2 o2.1 (if (gd o2.2 0).b then
 ou 1 []
 else
 ou 0 [(.int (IntKind.wrap .i64 ((gd l1 0).i+1)))]) fun _=>none
 else none
 else
 ou 2 []) [(.int 0)]).bind fun o1=>
 sel2 o1.1 (ou 0 [(.bool false)]) fun n2=>
 sel2 n2 (ou 0 [(.bool (decide ((a0.l.length:Int)<=12)))]) fun _=>none):=by kernel_rfl
theorem zHy (a0:D):z5K.F [a0]=rn (
 (z1Z.F [(a0.fld 0)]).bind fun r1=>
 if (catOk r1.s ([32]:List UInt8))then
 (z1Z.F [(a0.fld 1)]).bind fun r2=>
 if (catOk (r1.s++([32]:List UInt8)) r2.s)then
 (z0d (fun l3=>
 if (decide ((gd l3 1).i<((a0.fld 2).l.length:Int)))then
 if (inb (gd l3 1).i (a0.fld 2).l.length)then
 (z1Z.F [((gd (a0.fld 2).l (gd l3 1).i.toNat).fld 0)]).bind fun r5=>
 if (catOk ([10]:List UInt8) r5.s)then
 if (catOk (([10]:List UInt8)++r5.s) ([32]:List UInt8))then
 (z4L.F [((gd (a0.fld 2).l (gd l3 1).i.toNat).fld 1)]).bind fun r6=>
 if (catOk ((([10]:List UInt8)++r5.s)++([32]:List UInt8)) r6.s)then
 if (catOk (gd l3 0).s (((([10]:List UInt8)++r5.s)++([32]:List UInt8))++r6.s))then
 ou 0 [(.str ((gd l3 0).s++(((([10]:List UInt8)++r5.s)++([32]:List UInt8))++r6.s))),(.int (IntKind.wrap .i64 ((gd l3 1).i+1)))]
 else none
 else none
 else none
 else none
 else none
 else
 ou 1 [(gd l3 0)]) [(.str ((r1.s++([32]:List UInt8))++r2.s)),(.int 0)]).bind fun o3=>
 sel2 o3.1 (ou 0 [(gd o3.2 0)]) fun _=>none
 else none
 else none):=by kernel_rfl
theorem zEp (a0:D):z33.F [a0]=rn (
 ((z2i.F [(a0.fld 0),(a0.fld 1)]).bind fun r1=>
 if (!r1.b)then
 ou 0 [(.bool true)]
 else
 (z3E.F [(a0.fld 2)]).bind fun r2=>
 ou 0 [(.bool (!r2.b))]).bind fun o1=>
 sel2 o1.1 (if (gd o1.2 0).b then
 ou 0 [(.pair (D.str []) (.pair (.bool false) .unit))]
 else
 (z5K.F [a0]).bind fun r2=>
 ou 0 [(.pair r2 (.pair (.bool true) .unit))]) fun _=>none):=by kernel_rfl
theorem zEr (a0:D):z4a.F [a0]=rn (
 (z1N.F [a0,(.int 10)]).bind fun r1=>
 if (inb 0 r1.l.length)then
 (z1N.F [(gd r1.l 0),(.int 32)]).bind fun r2=>
 if ((r2.l.length:Int) != 2)then
 ou 0 [(.pair (.pair (.int 0) (.pair (.int 0) (.pair (D.lst []) .unit))) (.pair (.bool false) .unit))]
 else
 if (inb 0 r2.l.length)then
 (z1E.F [(gd r2.l 0)]).bind fun r3=>
 if (inb 1 r2.l.length)then
 (z1E.F [(gd r2.l 1)]).bind fun r4=>
 if (slOk 1 (r1.l.length:Int) (r1.l.length:Int))then
 (z0d (fun l5=>
 if (decide ((gd l5 1).i<(((r1.l.take (r1.l.length:Int).toNat).drop 1).length:Int)))then
 if (inb (gd l5 1).i ((r1.l.take (r1.l.length:Int).toNat).drop 1).length)then
 if (decide (((gd (D.lst ((r1.l.take (r1.l.length:Int).toNat).drop 1)).l (gd l5 1).i.toNat).s.length:Int)<2))then
 ou 1 [(.pair (.int 0) (.pair (.int 0) (.pair (D.lst []) .unit)))]
 else
 if (slOk 2 ((gd (D.lst ((r1.l.take (r1.l.length:Int).toNat).drop 1)).l (gd l5 1).i.toNat).s.length:Int) ((gd (D.lst ((r1.l.take (r1.l.length:Int).toNat).drop 1)).l (gd l5 1).i.toNat).s.length:Int))then
 (z49.F [(.str (((gd (D.lst ((r1.l.take (r1.l.length:Int).toNat).drop 1)).l (gd l5 1).i.toNat).s.take ((gd (D.lst ((r1.l.take (r1.l.length:Int).toNat).drop 1)).l (gd l5 1).i.toNat).s.length:Int).toNat).drop 2))]).bind fun r7=>
 if (!(r7.fld 1).b)then
 ou 1 [(.pair (.int 0) (.pair (.int 0) (.pair (D.lst []) .unit)))]
 else
 if (slOk 0 1 ((gd (D.lst ((r1.l.take (r1.l.length:Int).toNat).drop 1)).l (gd l5 1).i.toNat).s.length:Int))then
 (z1E.F [(.str (((gd (D.lst ((r1.l.take (r1.l.length:Int).toNat).drop 1)).l (gd l5 1).i.toNat).s.take 1).drop 0))]).bind fun r8=>
 if (appOk 56 ((gd l5 0).fld 2).l ((.pair r8 (.pair (r7.fld 0) .unit))::([]:List D)))then
 ou 0 [((gd l5 0).setFld 2 (D.lst (((gd l5 0).fld 2).l++((.pair r8 (.pair (r7.fld 0) .unit))::([]:List D))))),(.int (IntKind.wrap .i64 ((gd l5 1).i+1)))]
 else none
 else none
 else none
 else none
 else
 ou 2 [(gd l5 0)]) [(.pair r3 (.pair r4 (.pair (D.lst []) .unit))),(.int 0)]).bind fun o5=>
 sel2 o5.1 (ou 0 [(.pair (gd o5.2 0) (.pair (.bool false) .unit))]) fun n4=>
 sel2 n4 ((z33.F [(gd o5.2 0)]).bind fun r6=>
 (if (!(r6.fld 1).b)then
 ou 0 [(.bool true)]
 else
 ou 0 [(.bool (!((r6.fld 0).s==a0.s)))]).bind fun o7=>
 sel2 o7.1 (if (gd o7.2 0).b then
 ou 0 [(.pair (.pair (.int 0) (.pair (.int 0) (.pair (D.lst []) .unit))) (.pair (.bool false) .unit))]
 else
 ou 0 [(.pair (gd o5.2 0) (.pair (.bool true) .unit))]) fun _=>none) fun _=>none
 else none
 else none
 else none
 else none):=by kernel_rfl
theorem zGk (a0:D):z1o.F [a0]=rn (
 if (a0.s==([]:List UInt8))then
 ou 0 [(D.lst [])]
 else
 (z1A.F [a0,(D.str [46])]).bind fun r1=>
 ou 0 [r1]):=by kernel_rfl
theorem zJk (a0 a1 a2:D):z0j.F [a0,a1,a2]=rn (
 (if (decide (a0.i >= a1.i))then
 ou 0 [(.bool (decide (a0.i<=a2.i)))]
 else
 ou 0 [(.bool false)]).bind fun o3=>
 sel2 o3.1 (ou 0 [(gd o3.2 0)]) fun _=>none):=by kernel_rfl
theorem zHt (a0:D):z5F.F [a0]=rn (
 if (a0.s==([42]:List UInt8))then
 ou 0 [(.bool true)]
 else
 ((z0j.F [(.int (a0.s.length:Int)),(.int 1),(.int 20)]).bind fun r1=>
 if r1.b then
 (z4i.F [a0,(D.str [97,98,99,100,101,102,103,104,105,106,107,108,109,110,111,112,113,114,115,116,117,118,119,120,121,122,48,49,50,51,52,53,54,55,56,57,45,95])]).bind fun r2=>
 ou 0 [(.bool (r2.s==([]:List UInt8)))]
 else
 ou 0 [(.bool false)]).bind fun o1=>
 sel2 o1.1 (ou 0 [(gd o1.2 0)]) fun _=>none):=by kernel_rfl
theorem zDF (a0:D):z3G.F [a0]=rn (
 (z5F.F [a0]).bind fun r1=>
 ou 0 [(.bool (!r1.b))]):=by kernel_rfl
theorem z3c (a0 a1:D):z0Y.F [a0,a1]=rn (
 (z0d (fun l2=>
 if (decide ((gd l2 0).i<(a0.l.length:Int)))then
 if (inb (gd l2 0).i a0.l.length)then
 (z3G.F [(gd a0.l (gd l2 0).i.toNat)]).bind fun r3=>
 if r3.b then
 ou 1 [(gd l2 0)]
 else
 ou 0 [(.int (IntKind.wrap .i64 ((gd l2 0).i+1)))]
 else none
 else
 ou 2 []) [(.int 0)]).bind fun o2=>
 sel2 o2.1 (ou 0 [(gd o2.2 0)]) fun n2=>
 sel2 n2 (ou 0 [(.int (-1))]) fun _=>none):=by kernel_rfl
theorem z3L (a0 a1:D):z0W.F [a0,a1]=rn (
 (z0Y.F [a0,a1]).bind fun r2=>
 ou 0 [(.bool (decide (r2.i >= 0)))]):=by kernel_rfl
theorem zGd (a0:D):z25.F [a0]=rn (
 if (decide ((a0.s.length:Int) > 60))then
 ou 0 [(.bool false)]
 else
 (z1o.F [a0]).bind fun r1=>
 (if (decide ((r1.l.length:Int)<=8))then
 (z0W.F [r1,.unit]).bind fun r2=>
 ou 0 [(.bool (!r2.b))]
 else
 ou 0 [(.bool false)]).bind fun o2=>
 sel2 o2.1 (ou 0 [(gd o2.2 0)]) fun _=>none):=by kernel_rfl
theorem zGl (a0 a1:D):z26.F [a0,a1]=rn (
 (z1O.F [a0]).bind fun r2=>
 (if (!(r2.fld 1).b)then
 (z0j.F [(r2.fld 0),(.int 0),a1]).bind fun r3=>
 if r3.b then
 (z12.F [(r2.fld 0)]).bind fun r4=>
 ou 0 [(r2.fld 0),(.bool (r4.s==a0.s))]
 else
 ou 0 [(r2.fld 0),(.bool false)]
 else
 ou 0 [(r2.fld 0),(.bool false)]).bind fun o3=>
 sel2 o3.1 (ou 0 [(.pair (gd o3.2 0) (.pair (gd o3.2 1) .unit))]) fun _=>none):=by kernel_rfl
theorem zDJ (a0 a1:D):z3d.F [a0,a1]=rn (
 (z0d (fun l2=>
 if (decide ((gd l2 1).i >= 0))then
 if (decide (0<=(IntKind.wrap .i64 (8*(gd l2 1).i))))then
 if (appOk 1 (gd l2 0).l ((.int (IntKind.wrap .u8 (a0.i.fdiv (2 ^ min (IntKind.wrap .i64 (8*(gd l2 1).i)).toNat (IntKind.bits .i64)))))::([]:List D)))then
 ou 0 [(D.lst ((gd l2 0).l++((.int (IntKind.wrap .u8 (a0.i.fdiv (2 ^ min (IntKind.wrap .i64 (8*(gd l2 1).i)).toNat (IntKind.bits .i64)))))::([]:List D)))),(.int (IntKind.wrap .i64 ((gd l2 1).i-1)))]
 else none
 else none
 else
 ou 1 [(gd l2 0)]) [(D.lst []),(.int (IntKind.wrap .i64 (a1.i-1)))]).bind fun o2=>
 sel2 o2.1 (ou 0 [(.str (z0k (gd o2.2 0).l))]) fun _=>none):=by kernel_rfl
theorem zGj (a0:D):z45.F [a0]=rn (
 (if (!(a0.s==([]:List UInt8)))then
 (z25.F [a0]).bind fun r1=>
 if r1.b then
 (z1j.F [a0,(D.str [42])]).bind fun r2=>
 ou 0 [(.bool (!r2.b))]
 else
 ou 0 [(.bool false)]
 else
 ou 0 [(.bool false)]).bind fun o1=>
 sel2 o1.1 (ou 0 [(gd o1.2 0)]) fun _=>none):=by kernel_rfl
theorem z8Q (a0:D):z2X.F [a0]=rn (
 (z1o.F [a0]).bind fun r1=>
 (z0d (fun l2=>
 if (decide ((gd l2 1).i<(r1.l.length:Int)))then
 if (inb (gd l2 1).i r1.l.length)then
 if (catOk (z0k ((.int (IntKind.wrap .u8 ((gd r1.l (gd l2 1).i.toNat).s.length:Int)))::([]:List D))) (gd r1.l (gd l2 1).i.toNat).s)then
 if (catOk (gd l2 0).s ((z0k ((.int (IntKind.wrap .u8 ((gd r1.l (gd l2 1).i.toNat).s.length:Int)))::([]:List D)))++(gd r1.l (gd l2 1).i.toNat).s))then
 ou 0 [(.str ((gd l2 0).s++((z0k ((.int (IntKind.wrap .u8 ((gd r1.l (gd l2 1).i.toNat).s.length:Int)))::([]:List D)))++(gd r1.l (gd l2 1).i.toNat).s))),(.int (IntKind.wrap .i64 ((gd l2 1).i+1)))]
 else none
 else none
 else none
 else
 ou 1 [(gd l2 0)]) [(D.str []),(.int 0)]).bind fun o2=>
 sel2 o2.1 (ou 0 [(gd o2.2 0)]) fun _=>none):=by kernel_rfl
theorem zC9 (a0:D):z2z.F [a0]=rn (
 (if (decide (a0.i<32))then
 ou 0 [(.bool true)]
 else
 ou 0 [(.bool (decide (a0.i > 126)))]).bind fun o1=>
 sel2 o1.1 (ou 0 [(gd o1.2 0)]) fun _=>none):=by kernel_rfl
theorem z3v (a0 a1:D):z0a.F [a0,a1]=rn (
 (z0d (fun l2=>
 if (decide ((gd l2 0).i<(a0.l.length:Int)))then
 if (inb (gd l2 0).i a0.l.length)then
 (z2z.F [(gd a0.l (gd l2 0).i.toNat)]).bind fun r3=>
 if r3.b then
 ou 1 [(gd l2 0)]
 else
 ou 0 [(.int (IntKind.wrap .i64 ((gd l2 0).i+1)))]
 else none
 else
 ou 2 []) [(.int 0)]).bind fun o2=>
 sel2 o2.1 (ou 0 [(gd o2.2 0)]) fun n2=>
 sel2 n2 (ou 0 [(.int (-1))]) fun _=>none):=by kernel_rfl
theorem z3b (a0 a1:D):z0X.F [a0,a1]=rn (
 (z0a.F [a0,a1]).bind fun r2=>
 ou 0 [(.bool (decide (r2.i >= 0)))]):=by kernel_rfl
theorem z5W (a0 a1:D):z18.F [a0,a1]=rn (
 if (a0.i==1)then
 (z1A.F [a1,(D.str [46])]).bind fun r2=>
 (z0d (fun l3=>
 if (decide ((gd l3 1).i<(r2.l.length:Int)))then
 if (inb (gd l3 1).i r2.l.length)then
 (z26.F [(gd r2.l (gd l3 1).i.toNat),(.int 255)]).bind fun r5=>
 (if (!(r5.fld 1).b)then
 ou 0 [(.bool true)]
 else
 ou 0 [(.bool ((r2.l.length:Int) != 4))]).bind fun o6=>
 sel2 o6.1 (if (gd o6.2 0).b then
 ou 1 []
 else
 (z3d.F [(r5.fld 0),(.int 1)]).bind fun r7=>
 if (catOk (gd l3 0).s r7.s)then
 ou 0 [(.str ((gd l3 0).s++r7.s)),(.int (IntKind.wrap .i64 ((gd l3 1).i+1)))]
 else none) fun _=>none
 else none
 else
 ou 2 [(gd l3 0)]) [(D.str []),(.int 0)]).bind fun o3=>
 sel2 o3.1 (ou 0 [(.pair (D.str []) (.pair (.bool false) .unit))]) fun n4=>
 sel2 n4 (ou 0 [(.pair (gd o3.2 0) (.pair (.bool true) .unit))]) fun _=>none
 else
 (if (a0.i==2)then
 ou 0 [(.bool (a0.i==2))]
 else
 ou 0 [(.bool (a0.i==5))]).bind fun o2=>
 sel2 o2.1 (if (gd o2.2 0).b then
 (z45.F [a1]).bind fun r3=>
 if (!r3.b)then
 ou 0 [(.pair (D.str []) (.pair (.bool false) .unit))]
 else
 (z2X.F [a1]).bind fun r4=>
 if (catOk r4.s ([0]:List UInt8))then
 ou 0 [(.pair (.str (r4.s++([0]:List UInt8))) (.pair (.bool true) .unit))]
 else none
 else
 if (a0.i==6)then
 (z26.F [a1,(.int 4294967295)]).bind fun r3=>
 if (!(r3.fld 1).b)then
 ou 0 [(.pair (D.str []) (.pair (.bool false) .unit))]
 else
 (z3d.F [(r3.fld 0),(.int 4)]).bind fun r4=>
 ou 0 [(.pair r4 (.pair (.bool true) .unit))]
 else
 if (a0.i==15)then
 (z3B.F [a1,(D.str [32])]).bind fun r3=>
 (z26.F [(r3.fld 0),(.int 65535)]).bind fun r4=>
 (if (!(r4.fld 1).b)then
 ou 0 [(.bool true)]
 else
 (z45.F [(r3.fld 1)]).bind fun r5=>
 ou 0 [(.bool (!r5.b))]).bind fun o5=>
 sel2 o5.1 (if (gd o5.2 0).b then
 ou 0 [(.pair (D.str []) (.pair (.bool false) .unit))]
 else
 (z3d.F [(r4.fld 0),(.int 2)]).bind fun r6=>
 (z2X.F [(r3.fld 1)]).bind fun r7=>
 if (catOk r6.s r7.s)then
 if (catOk (r6.s++r7.s) ([0]:List UInt8))then
 ou 0 [(.pair (.str ((r6.s++r7.s)++([0]:List UInt8))) (.pair (.bool true) .unit))]
 else none
 else none) fun _=>none
 else
 if (a0.i==16)then
 (if (decide ((a1.s.length:Int) > 30))then
 ou 0 [(.bool true)]
 else
 (z0X.F [(D.lst (a1.s.map fun c=>D.int c.toNat)),.unit]).bind fun r3=>
 ou 0 [r3]).bind fun o3=>
 sel2 o3.1 (if (gd o3.2 0).b then
 ou 0 [(.pair (D.str []) (.pair (.bool false) .unit))]
 else
 (z3d.F [(.int (a1.s.length:Int)),(.int 1)]).bind fun r4=>
 if (catOk r4.s a1.s)then
 ou 0 [(.pair (.str (r4.s++a1.s)) (.pair (.bool true) .unit))]
 else none) fun _=>none
 else
 ou 0 [(.pair (D.str []) (.pair (.bool false) .unit))]) fun _=>none):=by kernel_rfl
theorem zDG (a0:D):z1f.F [a0]=rn (
 ((z25.F [(a0.fld 0)]).bind fun r1=>
 if (!r1.b)then
 ou 0 [(.bool true)]
 else
 (z0j.F [(a0.fld 2),(.int 0),(.int 100000)]).bind fun r2=>
 if (!r2.b)then
 ou 0 [(.bool true)]
 else
 ou 0 [(.bool (decide (((a0.fld 3).s.length:Int) > 100)))]).bind fun o1=>
 sel2 o1.1 (if (gd o1.2 0).b then
 ou 0 [(.bool false)]
 else
 (z18.F [(a0.fld 1),(a0.fld 3)]).bind fun r2=>
 ou 0 [(r2.fld 1)]) fun _=>none):=by kernel_rfl
theorem zMu (a0:D):z7I.F [a0]=rn (
 if (a0.s==([]:List UInt8))then
 ou 0 [(D.str [46])]
 else
 ou 0 [a0]):=by kernel_rfl
theorem zDL (a0:D):z2Y.F [a0]=rn (
 (z7I.F [(a0.fld 0)]).bind fun r1=>
 if (catOk r1.s ([32]:List UInt8))then
 (z12.F [(a0.fld 2)]).bind fun r2=>
 if (catOk (r1.s++([32]:List UInt8)) r2.s)then
 if (catOk ((r1.s++([32]:List UInt8))++r2.s) ([32]:List UInt8))then
 (z12.F [(a0.fld 1)]).bind fun r3=>
 if (catOk (((r1.s++([32]:List UInt8))++r2.s)++([32]:List UInt8)) r3.s)then
 if (catOk ((((r1.s++([32]:List UInt8))++r2.s)++([32]:List UInt8))++r3.s) ([32]:List UInt8))then
 if (catOk (((((r1.s++([32]:List UInt8))++r2.s)++([32]:List UInt8))++r3.s)++([32]:List UInt8)) (a0.fld 3).s)then
 ou 0 [(.str ((((((r1.s++([32]:List UInt8))++r2.s)++([32]:List UInt8))++r3.s)++([32]:List UInt8))++(a0.fld 3).s))]
 else none
 else none
 else none
 else none
 else none
 else none):=by kernel_rfl
theorem zDI (a0:D):z40.F [a0]=rn (
 (z3f.F [a0,(D.str [32]),(.int 4)]).bind fun r1=>
 (if (decide ((a0.s.length:Int) > 300))then
 ou 0 [(.bool true)]
 else
 ou 0 [(.bool ((r1.l.length:Int) != 4))]).bind fun o2=>
 sel2 o2.1 (if (gd o2.2 0).b then
 ou 0 [(.pair (.pair (.str []) (.pair (.int 0) (.pair (.int 0) (.pair (.str []) .unit)))) (.pair (.bool false) .unit))]
 else
 if (inb 0 r1.l.length)then
 if (inb 3 r1.l.length)then
 (if ((gd r1.l 0).s==([46]:List UInt8))then
 ou 0 [(.pair (D.str []) (.pair (.int 0) (.pair (.int 0) (.pair (gd r1.l 3) .unit))))]
 else
 ou 0 [(.pair (gd r1.l 0) (.pair (.int 0) (.pair (.int 0) (.pair (gd r1.l 3) .unit))))]).bind fun o3=>
 sel2 o3.1 (if (inb 1 r1.l.length)then
 (z1O.F [(gd r1.l 1)]).bind fun r4=>
 if (inb 2 r1.l.length)then
 (z1O.F [(gd r1.l 2)]).bind fun r5=>
 ((z1f.F [(((gd o3.2 0).setFld 2 (r4.fld 0)).setFld 1 (r5.fld 0))]).bind fun r6=>
 if (!r6.b)then
 ou 0 [(.bool true)]
 else
 (z2Y.F [(((gd o3.2 0).setFld 2 (r4.fld 0)).setFld 1 (r5.fld 0))]).bind fun r7=>
 ou 0 [(.bool (!(r7.s==a0.s)))]).bind fun o6=>
 sel2 o6.1 (if (gd o6.2 0).b then
 ou 0 [(.pair (.pair (.str []) (.pair (.int 0) (.pair (.int 0) (.pair (.str []) .unit)))) (.pair (.bool false) .unit))]
 else
 ou 0 [(.pair (((gd o3.2 0).setFld 2 (r4.fld 0)).setFld 1 (r5.fld 0)) (.pair (.bool true) .unit))]) fun _=>none
 else none
 else none) fun _=>none
 else none
 else none) fun _=>none):=by kernel_rfl
theorem z9f (a0 a1:D):z1n.F [a0,a1]=rn (
 ((z0j.F [a0,(.int 0),(.int 100)]).bind fun r2=>
 if r2.b then
 (z0j.F [a1,(.int 1),(.int 1000)]).bind fun r3=>
 ou 0 [r3]
 else
 ou 0 [(.bool false)]).bind fun o2=>
 sel2 o2.1 (ou 0 [(gd o2.2 0)]) fun _=>none):=by kernel_rfl
theorem z7U (a0:D):z1W.F [a0]=rn (
 ((z0j.F [(a0.fld 0),(.int 1),(.int 4)]).bind fun r1=>
 if (!r1.b)then
 ou 0 [(.bool true)]
 else
 (z1f.F [(a0.fld 1)]).bind fun r2=>
 if (!r2.b)then
 ou 0 [(.bool true)]
 else
 ou 0 [(.bool (((a0.fld 1).fld 1).i==6))]).bind fun o1=>
 sel2 o1.1 (ou 0 [(gd o1.2 0)]) fun _=>none):=by kernel_rfl
theorem z15 (a0 a1:D):z0F.F [a0,a1]=rn (
 (z0d (fun l2=>
 if (decide ((gd l2 0).i<(a0.l.length:Int)))then
 if (inb (gd l2 0).i a0.l.length)then
 (z1W.F [(gd a0.l (gd l2 0).i.toNat)]).bind fun r3=>
 if r3.b then
 ou 1 [(gd l2 0)]
 else
 ou 0 [(.int (IntKind.wrap .i64 ((gd l2 0).i+1)))]
 else none
 else
 ou 2 []) [(.int 0)]).bind fun o2=>
 sel2 o2.1 (ou 0 [(gd o2.2 0)]) fun n2=>
 sel2 n2 (ou 0 [(.int (-1))]) fun _=>none):=by kernel_rfl
theorem z0x (a0 a1:D):z0D.F [a0,a1]=rn (
 (z0F.F [a0,a1]).bind fun r2=>
 ou 0 [(.bool (decide (r2.i >= 0)))]):=by kernel_rfl
theorem z8P (a0:D):z1w.F [a0]=rn (
 (if (decide ((a0.l.length:Int)<=12))then
 (z0D.F [a0,.unit]).bind fun r1=>
 ou 0 [(.bool (!r1.b))]
 else
 ou 0 [(.bool false)]).bind fun o1=>
 sel2 o1.1 (ou 0 [(gd o1.2 0)]) fun _=>none):=by kernel_rfl
theorem zEk (a0:D):z4W.F [a0]=rn (
 (z12.F [(a0.fld 0)]).bind fun r1=>
 if (catOk r1.s ([32]:List UInt8))then
 (z12.F [(a0.fld 1)]).bind fun r2=>
 if (catOk (r1.s++([32]:List UInt8)) r2.s)then
 (z0d (fun l3=>
 if (decide ((gd l3 1).i<((a0.fld 2).l.length:Int)))then
 if (inb (gd l3 1).i (a0.fld 2).l.length)then
 (z12.F [((gd (a0.fld 2).l (gd l3 1).i.toNat).fld 0)]).bind fun r5=>
 if (catOk ([10]:List UInt8) r5.s)then
 if (catOk (([10]:List UInt8)++r5.s) ([32]:List UInt8))then
 (z2Y.F [((gd (a0.fld 2).l (gd l3 1).i.toNat).fld 1)]).bind fun r6=>
 if (catOk ((([10]:List UInt8)++r5.s)++([32]:List UInt8)) r6.s)then
 if (catOk (gd l3 0).s (((([10]:List UInt8)++r5.s)++([32]:List UInt8))++r6.s))then
 ou 0 [(.str ((gd l3 0).s++(((([10]:List UInt8)++r5.s)++([32]:List UInt8))++r6.s))),(.int (IntKind.wrap .i64 ((gd l3 1).i+1)))]
 else none
 else none
 else none
 else none
 else none
 else
 ou 1 [(gd l3 0)]) [(.str ((r1.s++([32]:List UInt8))++r2.s)),(.int 0)]).bind fun o3=>
 sel2 o3.1 (ou 0 [(gd o3.2 0)]) fun _=>none
 else none
 else none):=by kernel_rfl
theorem zEf (a0:D):z30.F [a0]=rn (
 ((z1n.F [(a0.fld 0),(a0.fld 1)]).bind fun r1=>
 if (!r1.b)then
 ou 0 [(.bool true)]
 else
 (z1w.F [(a0.fld 2)]).bind fun r2=>
 ou 0 [(.bool (!r2.b))]).bind fun o1=>
 sel2 o1.1 (if (gd o1.2 0).b then
 ou 0 [(.pair (D.str []) (.pair (.bool false) .unit))]
 else
 (z4W.F [a0]).bind fun r2=>
 ou 0 [(.pair r2 (.pair (.bool true) .unit))]) fun _=>none):=by kernel_rfl
theorem zEh (a0:D):z2G.F [a0]=rn (
 (z1A.F [a0,(D.str [10])]).bind fun r1=>
 if (decide ((r1.l.length:Int) > 13))then
 ou 0 [(.pair (.pair (.int 0) (.pair (.int 0) (.pair (D.lst []) .unit))) (.pair (.bool false) .unit))]
 else
 if (inb 0 r1.l.length)then
 (z3B.F [(gd r1.l 0),(D.str [32])]).bind fun r2=>
 (z1O.F [(r2.fld 0)]).bind fun r3=>
 (z1O.F [(r2.fld 1)]).bind fun r4=>
 if (slOk 1 (r1.l.length:Int) (r1.l.length:Int))then
 (z0d (fun l5=>
 if (decide ((gd l5 1).i<(((r1.l.take (r1.l.length:Int).toNat).drop 1).length:Int)))then
 if (inb (gd l5 1).i ((r1.l.take (r1.l.length:Int).toNat).drop 1).length)then
 (z3B.F [(gd (D.lst ((r1.l.take (r1.l.length:Int).toNat).drop 1)).l (gd l5 1).i.toNat),(D.str [32])]).bind fun r7=>
 (z40.F [(r7.fld 1)]).bind fun r8=>
 if (!(r8.fld 1).b)then
 ou 1 [(.pair (.int 0) (.pair (.int 0) (.pair (D.lst []) .unit)))]
 else
 (z1O.F [(r7.fld 0)]).bind fun r9=>
 if (appOk 56 ((gd l5 0).fld 2).l ((.pair (r9.fld 0) (.pair (r8.fld 0) .unit))::([]:List D)))then
 ou 0 [((gd l5 0).setFld 2 (D.lst (((gd l5 0).fld 2).l++((.pair (r9.fld 0) (.pair (r8.fld 0) .unit))::([]:List D))))),(.int (IntKind.wrap .i64 ((gd l5 1).i+1)))]
 else none
 else none
 else
 ou 2 [(gd l5 0)]) [(.pair (r3.fld 0) (.pair (r4.fld 0) (.pair (D.lst []) .unit))),(.int 0)]).bind fun o5=>
 sel2 o5.1 (ou 0 [(.pair (gd o5.2 0) (.pair (.bool false) .unit))]) fun n4=>
 sel2 n4 ((z30.F [(gd o5.2 0)]).bind fun r6=>
 (if (!(r6.fld 1).b)then
 ou 0 [(.bool true)]
 else
 ou 0 [(.bool (!((r6.fld 0).s==a0.s)))]).bind fun o7=>
 sel2 o7.1 (if (gd o7.2 0).b then
 ou 0 [(.pair (.pair (.int 0) (.pair (.int 0) (.pair (D.lst []) .unit))) (.pair (.bool false) .unit))]
 else
 ou 0 [(.pair (gd o5.2 0) (.pair (.bool true) .unit))]) fun _=>none) fun _=>none
 else none
 else none):=by kernel_rfl
theorem zGm (a0 a1:D):z4r.F [a0,a1]=rn (
 if (!((a0.fld 0).s==(a1.fld 0).s))then
 ou 0 [(.bool false)]
 else
 if ((a0.fld 1).i != (a1.fld 1).i)then
 ou 0 [(.bool false)]
 else
 if ((a0.fld 2).i != (a1.fld 2).i)then
 ou 0 [(.bool false)]
 else
 if (!((a0.fld 3).s==(a1.fld 3).s))then
 ou 0 [(.bool false)]
 else
 ou 0 [(.bool true)]):=by kernel_rfl
theorem q_laws_eqChange (a0 a1:D):z5w.F [a0,a1]=rn (
 if ((a0.fld 0).i != (a1.fld 0).i)then
 ou 0 [(.bool false)]
 else
 (z4r.F [(a0.fld 1),(a1.fld 1)]).bind fun r2=>
 if (!r2.b)then
 ou 0 [(.bool false)]
 else
 ou 0 [(.bool true)]):=by kernel_rfl
theorem q_laws_eqChangeS (a0 a1:D):z5S.F [a0,a1]=rn (
 if ((a0.l.length:Int) != (a1.l.length:Int))then
 ou 0 [(.bool false)]
 else
 (z0d (fun l2=>
 if (decide ((gd l2 0).i<(a0.l.length:Int)))then
 if (inb (gd l2 0).i a0.l.length)then
 if (inb (gd l2 0).i a1.l.length)then
 (z5w.F [(gd a0.l (gd l2 0).i.toNat),(gd a1.l (gd l2 0).i.toNat)]).bind fun r3=>
 if (!r3.b)then
 ou 1 []
 else
 ou 0 [(.int (IntKind.wrap .i64 ((gd l2 0).i+1)))]
 else none
 else none
 else
 ou 2 []) [(.int 0)]).bind fun o2=>
 sel2 o2.1 (ou 0 [(.bool false)]) fun n4=>
 sel2 n4 (ou 0 [(.bool true)]) fun _=>none):=by kernel_rfl
theorem q_laws_eqAsked (a0 a1:D):z5I.F [a0,a1]=rn (
 if ((a0.fld 0).i != (a1.fld 0).i)then
 ou 0 [(.bool false)]
 else
 if ((a0.fld 1).i != (a1.fld 1).i)then
 ou 0 [(.bool false)]
 else
 (z5S.F [(a0.fld 2),(a1.fld 2)]).bind fun r2=>
 if (!r2.b)then
 ou 0 [(.bool false)]
 else
 ou 0 [(.bool true)]):=by kernel_rfl
theorem zGn (a0:D):z1p.F [a0]=rn (
 if (decide (a0.i<=0))then
 ou 0 [(D.str [109,48])]
 else
 (z0d (fun l1=>
 if (decide ((gd l1 0).i > 0))then
 if (10 != 0)then
 if (catOk (z0k ((.int (IntKind.wrap .u8 (IntKind.wrap .i64 (48+((gd l1 0).i.tmod 10)))))::([]:List D))) (gd l1 1).s)then
 ou 0 [(.int (IntKind.wrap .i64 ((gd l1 0).i.tdiv 10))),(.str ((z0k ((.int (IntKind.wrap .u8 (IntKind.wrap .i64 (48+((gd l1 0).i.tmod 10)))))::([]:List D)))++(gd l1 1).s))]
 else none
 else none
 else
 ou 1 [(gd l1 1)]) [a0,(D.str [])]).bind fun o1=>
 sel2 o1.1 (if (catOk ([109]:List UInt8) (gd o1.2 0).s)then
 ou 0 [(.str (([109]:List UInt8)++(gd o1.2 0).s))]
 else none) fun _=>none):=by kernel_rfl
theorem q_laws_markChangeS (a0 a1:D):z4m.F [a0,a1]=rn (
 (z0d (fun l2=>
 if (decide ((gd l2 2).i<((gd l2 0).l.length:Int)))then
 if (inb (gd l2 2).i (gd l2 0).l.length)then
 (z1p.F [(.int (IntKind.wrap .i64 ((gd l2 1).i+1)))]).bind fun r5=>
 (z1p.F [(.int (IntKind.wrap .i64 ((IntKind.wrap .i64 ((IntKind.wrap .i64 ((IntKind.wrap .i64 ((gd l2 1).i+1))+1))+1))+1)))]).bind fun r6=>
 ou 0 [(D.lst (upd2 (upd2 (upd2 (upd2 (upd (gd l2 0).l (gd l2 2).i.toNat 0 (gd l2 1)) (gd l2 2).i.toNat 1 0 r5) (gd l2 2).i.toNat 1 1 (.int (IntKind.wrap .i64 ((IntKind.wrap .i64 ((gd l2 1).i+1))+1)))) (gd l2 2).i.toNat 1 2 (.int (IntKind.wrap .i64 ((IntKind.wrap .i64 ((IntKind.wrap .i64 ((gd l2 1).i+1))+1))+1)))) (gd l2 2).i.toNat 1 3 r6)),(.int (IntKind.wrap .i64 ((IntKind.wrap .i64 ((IntKind.wrap .i64 ((IntKind.wrap .i64 ((IntKind.wrap .i64 ((gd l2 1).i+1))+1))+1))+1))+1))),(.int (IntKind.wrap .i64 ((gd l2 2).i+1)))]
 else none
 else
 ou 1 [(gd l2 0),(gd l2 1)]) [a0,a1,(.int 0)]).bind fun o2=>
 sel2 o2.1 (ou 0 [(.pair (gd o2.2 1) (.pair (gd o2.2 0) .unit))]) fun _=>none):=by kernel_rfl
theorem q_laws_markAsked (a0 a1:D):z5T.F [a0,a1]=rn (
 (z4m.F [(a0.fld 2),a1]).bind fun r2=>
 ou 0 [(.pair (r2.fld 0) (.pair (D.mix (.pair (.int .i64) (.pair (.int .i64) (.pair (.lst true (.pair (.int .i64) (.pair (.pair .str (.pair (.int .i64) (.pair (.int .i64) (.pair .str .unit)))) .unit))) .unit))) a0 (a0.setFld 2 (r2.fld 1))) .unit))]):=by kernel_rfl
theorem q_laws_heldChangeS (a0 a1:D):z4l.F [a0,a1]=rn (
 (z0d (fun l2=>
 if (decide ((gd l2 1).i<(a0.l.length:Int)))then
 if (inb (gd l2 1).i a0.l.length)then
 if (((gd a0.l (gd l2 1).i.toNat).fld 0).i != (gd l2 0).i)then
 ou 1 [(.int (-1))]
 else
 (z1p.F [(.int (IntKind.wrap .i64 ((gd l2 0).i+1)))]).bind fun r4=>
 if (!((((gd a0.l (gd l2 1).i.toNat).fld 1).fld 0).s==r4.s))then
 ou 1 [(.int (-1))]
 else
 if ((((gd a0.l (gd l2 1).i.toNat).fld 1).fld 1).i != (IntKind.wrap .i64 ((IntKind.wrap .i64 ((gd l2 0).i+1))+1)))then
 ou 1 [(.int (-1))]
 else
 if ((((gd a0.l (gd l2 1).i.toNat).fld 1).fld 2).i != (IntKind.wrap .i64 ((IntKind.wrap .i64 ((IntKind.wrap .i64 ((gd l2 0).i+1))+1))+1)))then
 ou 1 [(.int (-1))]
 else
 (z1p.F [(.int (IntKind.wrap .i64 ((IntKind.wrap .i64 ((IntKind.wrap .i64 ((IntKind.wrap .i64 ((gd l2 0).i+1))+1))+1))+1)))]).bind fun r5=>
 if (!((((gd a0.l (gd l2 1).i.toNat).fld 1).fld 3).s==r5.s))then
 ou 1 [(.int (-1))]
 else
 ou 0 [(.int (IntKind.wrap .i64 ((IntKind.wrap .i64 ((IntKind.wrap .i64 ((IntKind.wrap .i64 ((IntKind.wrap .i64 ((gd l2 0).i+1))+1))+1))+1))+1))),(.int (IntKind.wrap .i64 ((gd l2 1).i+1)))]
 else none
 else
 ou 2 [(gd l2 0)]) [a1,(.int 0)]).bind fun o2=>
 sel2 o2.1 (ou 0 [(gd o2.2 0)]) fun n2=>
 sel2 n2 (ou 0 [(gd o2.2 0)]) fun _=>none):=by kernel_rfl
theorem q_laws_heldAsked (a0 a1:D):z4Y.F [a0,a1]=rn (
 (z4l.F [(a0.fld 2),a1]).bind fun r2=>
 if (decide (r2.i<0))then
 ou 0 [(.int (-1))]
 else
 ou 0 [r2]):=by kernel_rfl
theorem q_laws_FnExactReadAsked (a0:D):z5v.F [a0]=rn (
 if (decide ((a0.s.length:Int) > 1048576))then
 ou 0 [(.bool true)]
 else
 (z4a.F [a0]).bind fun r1=>
 (z2G.F [a0]).bind fun r2=>
 ((z5I.F [(r2.fld 0),(r1.fld 0)]).bind fun r3=>
 if (!r3.b)then
 ou 0 [(.bool true)]
 else
 ou 0 [(.bool (!((r2.fld 1).b==(r1.fld 1).b)))]).bind fun o3=>
 sel2 o3.1 (if (gd o3.2 0).b then
 ou 0 [(.bool false)]
 else
 (z5T.F [(r2.fld 0),(.int 1)]).bind fun r4=>
 (z4Y.F [(.pair ((r2.fld 0).fld 0) (.pair ((r2.fld 0).fld 1) (.pair ((r4.fld 1).fld 2) .unit))),(.int 1)]).bind fun r5=>
 if (decide (r5.i<0))then
 ou 0 [(.bool false)]
 else
 if (r5.i != (r4.fld 0).i)then
 ou 0 [(.bool false)]
 else
 (z2G.F [a0]).bind fun r6=>
 ((z5I.F [(r6.fld 0),(r1.fld 0)]).bind fun r7=>
 if (!r7.b)then
 ou 0 [(.bool true)]
 else
 ou 0 [(.bool (!((r6.fld 1).b==(r1.fld 1).b)))]).bind fun o7=>
 sel2 o7.1 (if (gd o7.2 0).b then
 ou 0 [(.bool false)]
 else
 (z4Y.F [(.pair ((r2.fld 0).fld 0) (.pair ((r2.fld 0).fld 1) (.pair ((r4.fld 1).fld 2) .unit))),(.int 1)]).bind fun r8=>
 if (decide (r8.i<0))then
 ou 0 [(.bool false)]
 else
 if (r8.i != (r4.fld 0).i)then
 ou 0 [(.bool false)]
 else
 ou 0 [(.bool true)]) fun _=>none) fun _=>none):=by kernel_rfl
theorem zDS (a0:D):z3I.F [a0]=rn (
 (if (decide ((a0.fld 1).i<((a0.fld 0).l.length:Int)))then
 if (inb (a0.fld 1).i (a0.fld 0).l.length)then
 ou 0 [(.int (IntKind.wrap .i64 (gd (a0.fld 0).l (a0.fld 1).i.toNat).i))]
 else none
 else
 ou 0 [(.int 0)]).bind fun o1=>
 sel2 o1.1 (if (decide ((IntKind.wrap .i64 ((a0.fld 1).i+1))<=((a0.fld 0).l.length:Int)))then
 ou 0 [(.pair (gd o1.2 0) (.pair ((a0.setFld 1 (.int (IntKind.wrap .i64 ((a0.fld 1).i+1)))).setFld 2 (.int (IntKind.wrap .u64 ((IntKind.wrap .u64 ((IntKind.wrap .u64 ((a0.fld 2).i*6364136223846793005))+(IntKind.wrap .u64 (gd o1.2 0).i)))+1442695040888963407)))) .unit))]
 else
 if (decide (0<=40))then
 ou 0 [(.pair (.int (IntKind.wrap .i64 (D.ofBin (zFL .and .u64 ((IntKind.wrap .u64 ((IntKind.wrap .u64 ((IntKind.wrap .u64 ((a0.fld 2).i*6364136223846793005))+(IntKind.wrap .u64 (gd o1.2 0).i)))+1442695040888963407)).fdiv (2 ^ min 40 (IntKind.bits .u64))) 255)).i)) (.pair ((a0.setFld 1 (.int (IntKind.wrap .i64 ((a0.fld 1).i+1)))).setFld 2 (.int (IntKind.wrap .u64 ((IntKind.wrap .u64 ((IntKind.wrap .u64 ((a0.fld 2).i*6364136223846793005))+(IntKind.wrap .u64 (gd o1.2 0).i)))+1442695040888963407)))) .unit))]
 else none) fun _=>none):=by kernel_rfl
theorem zDT (a0 a1:D):z09.F [a0,a1]=rn (
 if (decide (a1.i<=1))then
 ou 0 [(.pair (.int 0) (.pair a0 .unit))]
 else
 (z3I.F [a0]).bind fun r2=>
 (if (decide (a1.i > 200))then
 (z3I.F [(r2.fld 1)]).bind fun r3=>
 ou 0 [(r3.fld 1),(.int (IntKind.wrap .i64 ((IntKind.wrap .i64 ((r2.fld 0).i*256))+(r3.fld 0).i)))]
 else
 ou 0 [(r2.fld 1),(r2.fld 0)]).bind fun o3=>
 sel2 o3.1 (if (a1.i != 0)then
 ou 0 [(.pair (.int ((gd o3.2 1).i.tmod a1.i)) (.pair (gd o3.2 0) .unit))]
 else none) fun _=>none):=by kernel_rfl
theorem zEu (a0 a1:D):z0h.F [a0,a1]=rn (
 (z09.F [a0,a1]).bind fun r2=>
 ou 0 [(.pair (.bool ((r2.fld 0).i==0)) (.pair (r2.fld 1) .unit))]):=by kernel_rfl
theorem zCF (a0 a1:D):z0e.F [a0,a1]=rn (
 (z09.F [a0,(.int (a1.l.length:Int))]).bind fun r2=>
 if (inb (r2.fld 0).i a1.l.length)then
 ou 0 [(.pair (gd a1.l (r2.fld 0).i.toNat) (.pair (r2.fld 1) .unit))]
 else none):=by kernel_rfl
theorem zGr (a0 a1:D):z0m.F [a0,a1]=rn (
 (z09.F [a0,(.int (a1.l.length:Int))]).bind fun r2=>
 if (inb (r2.fld 0).i a1.l.length)then
 ou 0 [(.pair (gd a1.l (r2.fld 0).i.toNat) (.pair (r2.fld 1) .unit))]
 else none):=by kernel_rfl
theorem zDR (a0:D):z2a.F [a0]=rn (
 (z09.F [a0,(.int 40)]).bind fun r1=>
 if ((r1.fld 0).i==0)then
 (z0m.F [(r1.fld 1),(D.lst ((D.str [])::((D.str [46])::((D.str [97,46,46,98])::((D.str [65])::((D.str [97,46])::((D.str [97,42])::((D.str [97,46,98,46,99,46,100,46,101,46,102,46,103,46,104])::((D.str [97,46,98,46,99,46,100,46,101,46,102,46,103,46,104,46,105])::((D.str [97,98,99,100,101,102,103,104,105,106,107,108,109,110,111,112,113,114,115,116])::((D.str [97,98,99,100,101,102,103,104,105,106,107,108,109,110,111,112,113,114,115,116,117])::([]:List D))))))))))))]).bind fun r2=>
 ou 0 [(.pair (r2.fld 0) (.pair (r2.fld 1) .unit))]
 else
 if ((r1.fld 0).i==1)then
 (z0m.F [(r1.fld 1),(D.lst ((D.str [])::((D.str [99,111,109])::([]:List D))))]).bind fun r2=>
 ou 0 [(.pair (r2.fld 0) (.pair (r2.fld 1) .unit))]
 else
 (z0m.F [(r1.fld 1),(D.lst ((D.str [101,120])::((D.str [99,111,109])::((D.str [101,120,46,99,111,109])::((D.str [101,120,46,99,111,109])::((D.str [101,120,46,99,111,109])::([]:List D)))))))]).bind fun r2=>
 (z09.F [(r2.fld 1),(.int 3)]).bind fun r3=>
 (z0d (fun l4=>
 if (decide ((gd l4 2).i > 0))then
 (z0m.F [(gd l4 0),(D.lst ((D.str [97])::((D.str [98])::((D.str [119,119,119])::((D.str [115,117,98])::((D.str [42])::((D.str [120,49])::((D.str [110,115])::([]:List D)))))))))]).bind fun r7=>
 if (catOk (r7.fld 0).s ([46]:List UInt8))then
 if (catOk ((r7.fld 0).s++([46]:List UInt8)) (gd l4 1).s)then
 ou 0 [(r7.fld 1),(.str (((r7.fld 0).s++([46]:List UInt8))++(gd l4 1).s)),(.int (IntKind.wrap .i64 ((gd l4 2).i-1)))]
 else none
 else none
 else
 ou 1 [(gd l4 0),(gd l4 1)]) [(r3.fld 1),(r2.fld 0),(r3.fld 0)]).bind fun o4=>
 sel2 o4.1 (ou 0 [(.pair (gd o4.2 1) (.pair (gd o4.2 0) .unit))]) fun _=>none):=by kernel_rfl
theorem zBG (a0:D):z2b.F [a0]=rn (
 (z0m.F [a0,(D.lst ((D.str [97,46,101,120,46,99,111,109])::((D.str [98,46,101,120,46,99,111,109])::((D.str [110,115,46,101,120,46,99,111,109])::((D.str [119,119,119,46,99,111,109])::((D.str [120,49,46,115,117,98,46,101,120,46,99,111,109])::([]:List D)))))))]).bind fun r1=>
 ou 0 [(.pair (r1.fld 0) (.pair (r1.fld 1) .unit))]):=by kernel_rfl
theorem zBF (a0:D):z3S.F [a0]=rn (
 (z2a.F [a0]).bind fun r1=>
 (z0e.F [(r1.fld 1),(D.lst ((.int 1)::((.int 1)::((.int 1)::((.int 2)::((.int 5)::((.int 15)::((.int 16)::((.int 6)::([]:List D))))))))))]).bind fun r2=>
 (z0e.F [(r2.fld 1),(D.lst ((.int 5)::((.int 60)::((.int 60)::((.int 300)::([]:List D))))))]).bind fun r3=>
 (if ((r2.fld 0).i==1)then
 (z0m.F [(r3.fld 1),(D.lst ((D.str [49,46,50,46,51,46,52])::((D.str [49,46,50,46,51,46,53])::((D.str [49,48,46,48,46,48,46,49])::((D.str [57,46,57,46,57,46,57])::([]:List D))))))]).bind fun r4=>
 ou 0 [(r4.fld 1),(.pair (r1.fld 0) (.pair (r2.fld 0) (.pair (r3.fld 0) (.pair (r4.fld 0) .unit))))]
 else
 (if ((r2.fld 0).i==2)then
 ou 0 [(.bool ((r2.fld 0).i==2))]
 else
 ou 0 [(.bool ((r2.fld 0).i==5))]).bind fun o4=>
 sel2 o4.1 (if (gd o4.2 0).b then
 (z2b.F [(r3.fld 1)]).bind fun r5=>
 ou 0 [(r5.fld 1),(.pair (r1.fld 0) (.pair (r2.fld 0) (.pair (r3.fld 0) (.pair (r5.fld 0) .unit))))]
 else
 if ((r2.fld 0).i==6)then
 (z09.F [(r3.fld 1),(.int 20)]).bind fun r5=>
 (z1Z.F [(r5.fld 0)]).bind fun r6=>
 ou 0 [(r5.fld 1),(.pair (r1.fld 0) (.pair (r2.fld 0) (.pair (r3.fld 0) (.pair r6 .unit))))]
 else
 if ((r2.fld 0).i==15)then
 (z09.F [(r3.fld 1),(.int 30)]).bind fun r5=>
 (z1Z.F [(r5.fld 0)]).bind fun r6=>
 if (catOk r6.s ([32]:List UInt8))then
 (z2b.F [(r5.fld 1)]).bind fun r7=>
 if (catOk (r6.s++([32]:List UInt8)) (r7.fld 0).s)then
 ou 0 [(r7.fld 1),(.pair (r1.fld 0) (.pair (r2.fld 0) (.pair (r3.fld 0) (.pair (.str ((r6.s++([32]:List UInt8))++(r7.fld 0).s)) .unit))))]
 else none
 else none
 else
 (z0m.F [(r3.fld 1),(D.lst ((D.str [104,101,108,108,111])::((D.str [])::((D.str [118,61,49,32,120])::([]:List D)))))]).bind fun r5=>
 ou 0 [(r5.fld 1),(.pair (r1.fld 0) (.pair (r2.fld 0) (.pair (r3.fld 0) (.pair (r5.fld 0) .unit))))]) fun _=>none).bind fun o4=>
 sel2 o4.1 (((z09.F [(gd o4.2 0),(.int 40)]).bind fun r6=>
 if ((r6.fld 0).i==0)then
 (z0e.F [(r6.fld 1),(D.lst ((.int (-1))::((.int 0)::((.int 100000)::((.int 100001)::([]:List D))))))]).bind fun r7=>
 ou 0 [(r7.fld 1),((gd o4.2 1).setFld 2 (r7.fld 0))]
 else
 if ((r6.fld 0).i==1)then
 (z0m.F [(r6.fld 1),(D.lst ((D.str [49,46,50,46,51])::((D.str [50,53,54,46,49,46,49,46,49])::((D.str [42])::((D.str [52,50,57,52,57,54,55,50,57,53])::((D.str [52,50,57,52,57,54,55,50,57,54])::((D.str [55,48,48,48,48,32,97,46,98])::((D.str [48,49,46,50,46,51,46,52])::((D.str [1])::([]:List D))))))))))]).bind fun r7=>
 ou 0 [(r7.fld 1),((gd o4.2 1).setFld 3 (r7.fld 0))]
 else
 if ((r6.fld 0).i==2)then
 (z09.F [(r6.fld 1),(.int 20)]).bind fun r7=>
 ou 0 [(r7.fld 1),((gd o4.2 1).setFld 1 (r7.fld 0))]
 else
 ou 0 [(r6.fld 1),(gd o4.2 1)]).bind fun o6=>
 sel2 o6.1 (ou 0 [(.pair (gd o6.2 1) (.pair (gd o6.2 0) .unit))]) fun _=>none) fun _=>none):=by kernel_rfl
theorem zBE (a0:D):z3R.F [a0]=rn (
 (z3S.F [a0]).bind fun r1=>
 (z0h.F [(r1.fld 1),(.int 12)]).bind fun r2=>
 if (r2.fld 0).b then
 ou 0 [(.pair (r1.fld 0) (.pair (r2.fld 1) .unit))]
 else
 (z0m.F [(r2.fld 1),(D.lst ((D.str [101,120,46,99,111,109])::((D.str [97,46,101,120,46,99,111,109])::((D.str [98,46,101,120,46,99,111,109])::((D.str [119,119,119,46,101,120,46,99,111,109])::((D.str [42,46,101,120,46,99,111,109])::((D.str [120,46,97,46,101,120,46,99,111,109])::((D.str [115,117,98,46,101,120,46,99,111,109])::((D.str [110,115,46,115,117,98,46,101,120,46,99,111,109])::([]:List D))))))))))]).bind fun r3=>
 ((if (((r1.fld 0).fld 1).i==6)then
 (z0h.F [(r3.fld 1),(.int 4)]).bind fun r4=>
 ou 0 [(r4.fld 1),(.bool (!(r4.fld 0).b))]
 else
 ou 0 [(r3.fld 1),(.bool false)]).bind fun o4=>
 sel2 o4.1 (if (gd o4.2 1).b then
 ou 0 [(gd o4.2 0),(((((r1.fld 0).setFld 0 (r3.fld 0)).setFld 2 (.int 60)).setFld 1 (.int 1)).setFld 3 (D.str [49,46,50,46,51,46,52]))]
 else
 ou 0 [(gd o4.2 0),(((r1.fld 0).setFld 0 (r3.fld 0)).setFld 2 (.int 60))]) fun _=>none).bind fun o4=>
 sel2 o4.1 (((if (((gd o4.2 1).fld 0).s==([115,117,98,46,101,120,46,99,111,109]:List UInt8))then
 if (((gd o4.2 1).fld 1).i != 2)then
 (z0h.F [(gd o4.2 0),(.int 2)]).bind fun r6=>
 ou 0 [(r6.fld 1),(r6.fld 0)]
 else
 ou 0 [(gd o4.2 0),(.bool false)]
 else
 ou 0 [(gd o4.2 0),(.bool false)]).bind fun o6=>
 sel2 o6.1 (if (gd o6.2 1).b then
 ou 0 [(gd o6.2 0),(((gd o4.2 1).setFld 1 (.int 2)).setFld 3 (D.str [110,115,46,115,117,98,46,101,120,46,99,111,109]))]
 else
 ou 0 [(gd o6.2 0),(gd o4.2 1)]) fun _=>none).bind fun o6=>
 sel2 o6.1 (ou 0 [(.pair (gd o6.2 1) (.pair (gd o6.2 0) .unit))]) fun _=>none) fun _=>none):=by kernel_rfl
theorem zCG (a0:D):z3k.F [a0]=rn (
 (z09.F [a0,(.int 3)]).bind fun r1=>
 ((z0h.F [(r1.fld 1),(.int 40)]).bind fun r2=>
 if (r2.fld 0).b then
 (z09.F [(r2.fld 1),(.int 2)]).bind fun r3=>
 ou 0 [(r3.fld 1),(.int (IntKind.wrap .i64 (12+(r3.fld 0).i)))]
 else
 ou 0 [(r2.fld 1),(.int (IntKind.wrap .i64 (1+(r1.fld 0).i)))]).bind fun o2=>
 sel2 o2.1 ((z0d (fun l4=>
 if (decide ((gd l4 2).i > 0))then
 (z0e.F [(gd l4 0),(D.lst ((.int 1)::((.int 1)::((.int 1)::((.int 1)::((.int 2)::((.int 3)::((.int 4)::([]:List D)))))))))]).bind fun r7=>
 (z3R.F [(r7.fld 1)]).bind fun r8=>
 if (appOk 56 (gd l4 1).l ((.pair (r7.fld 0) (.pair (r8.fld 0) .unit))::([]:List D)))then
 ou 0 [(r8.fld 1),(D.lst ((gd l4 1).l++((.pair (r7.fld 0) (.pair (r8.fld 0) .unit))::([]:List D)))),(.int (IntKind.wrap .i64 ((gd l4 2).i-1)))]
 else none
 else
 ou 1 [(gd l4 0),(gd l4 1)]) [(gd o2.2 0),(D.lst []),(gd o2.2 1)]).bind fun o4=>
 sel2 o4.1 (((z0h.F [(gd o4.2 0),(.int 60)]).bind fun r6=>
 if (r6.fld 0).b then
 (z09.F [(r6.fld 1),(.int 6)]).bind fun r7=>
 if (inb 0 (gd o4.2 1).l.length)then
 ou 0 [(r7.fld 1),(D.lst (upd (gd o4.2 1).l 0 0 (r7.fld 0)))]
 else none
 else
 ou 0 [(r6.fld 1),(gd o4.2 1)]).bind fun o6=>
 sel2 o6.1 (ou 0 [(.pair (gd o6.2 1) (.pair (gd o6.2 0) .unit))]) fun _=>none) fun _=>none) fun _=>none):=by kernel_rfl
theorem z8R (a0:D):z0o.F [a0]=rn (
 (z09.F [a0,(.int 3)]).bind fun r1=>
 (z09.F [(r1.fld 1),(.int 6)]).bind fun r2=>
 (z3k.F [(r2.fld 1)]).bind fun r3=>
 ((z09.F [(r3.fld 1),(.int 60)]).bind fun r4=>
 if ((r4.fld 0).i==0)then
 (z0e.F [(r4.fld 1),(D.lst ((.int 0)::((.int 1000)::((.int 1001)::([]:List D)))))]).bind fun r5=>
 ou 0 [(r5.fld 1),(.pair (r1.fld 0) (.pair (r5.fld 0) (.pair (r3.fld 0) .unit)))]
 else
 if ((r4.fld 0).i==1)then
 (z0e.F [(r4.fld 1),(D.lst ((.int (-1))::((.int 100)::((.int 101)::([]:List D)))))]).bind fun r5=>
 ou 0 [(r5.fld 1),(.pair (r5.fld 0) (.pair (.int (IntKind.wrap .i64 (1+(r2.fld 0).i))) (.pair (r3.fld 0) .unit)))]
 else
 ou 0 [(r4.fld 1),(.pair (r1.fld 0) (.pair (.int (IntKind.wrap .i64 (1+(r2.fld 0).i))) (.pair (r3.fld 0) .unit)))]).bind fun o4=>
 sel2 o4.1 (ou 0 [(.pair (gd o4.2 1) (.pair (gd o4.2 0) .unit))]) fun _=>none):=by kernel_rfl
theorem z93 (a0:D):z1R.F [a0]=rn (
 (z09.F [a0,(.int 9)]).bind fun r1=>
 (z0d (fun l2=>
 if (decide ((gd l2 2).i > 0))then
 ((z0o.F [(gd l2 0)]).bind fun r5=>
 ((z0h.F [(r5.fld 1),(.int 2)]).bind fun r6=>
 if (r6.fld 0).b then
 ou 0 [(r6.fld 1),((r5.fld 0).setFld 1 (.int (IntKind.wrap .i64 (((gd l2 1).l.length:Int)+1))))]
 else
 ou 0 [(r6.fld 1),(r5.fld 0)]).bind fun o6=>
 sel2 o6.1 (if (appOk 40 (gd l2 1).l ((gd o6.2 1)::([]:List D)))then
 (z0h.F [(gd o6.2 0),(.int 5)]).bind fun r8=>
 if (r8.fld 0).b then
 if (appOk 40 ((gd l2 1).l++((gd o6.2 1)::([]:List D))) ((gd o6.2 1)::([]:List D)))then
 ou 0 [(r8.fld 1),(D.lst (((gd l2 1).l++((gd o6.2 1)::([]:List D)))++((gd o6.2 1)::([]:List D))))]
 else none
 else
 ou 0 [(r8.fld 1),(D.lst ((gd l2 1).l++((gd o6.2 1)::([]:List D))))]
 else none) fun _=>none).bind fun o5=>
 sel2 o5.1 (ou 0 [(gd o5.2 0),(gd o5.2 1),(.int (IntKind.wrap .i64 ((gd l2 2).i-1)))]) fun _=>none
 else
 ou 1 [(gd l2 0),(gd l2 1)]) [(r1.fld 1),(D.lst []),(r1.fld 0)]).bind fun o2=>
 sel2 o2.1 (((z0h.F [(gd o2.2 0),(.int 30)]).bind fun r4=>
 if (r4.fld 0).b then
 (z0d (fun l5=>
 (z09.F [(gd l5 0),(.int 2)]).bind fun r7=>
 if (decide (((gd l5 1).l.length:Int)<(IntKind.wrap .i64 (40+(r7.fld 0).i))))then
 if (11 != 0)then
 if (appOk 40 (gd l5 1).l ((.pair (.int (((gd l5 1).l.length:Int).tmod 11)) (.pair (.int (IntKind.wrap .i64 (1+((gd l5 1).l.length:Int)))) (.pair (D.lst []) .unit)))::([]:List D)))then
 ou 0 [(r7.fld 1),(D.lst ((gd l5 1).l++((.pair (.int (((gd l5 1).l.length:Int).tmod 11)) (.pair (.int (IntKind.wrap .i64 (1+((gd l5 1).l.length:Int)))) (.pair (D.lst []) .unit)))::([]:List D))))]
 else none
 else none
 else
 ou 1 [(r7.fld 1),(gd l5 1)]) [(r4.fld 1),(gd o2.2 1)]).bind fun o5=>
 sel2 o5.1 (ou 0 [(gd o5.2 0),(gd o5.2 1)]) fun _=>none
 else
 ou 0 [(r4.fld 1),(gd o2.2 1)]).bind fun o4=>
 sel2 o4.1 (ou 0 [(.pair (gd o4.2 1) (.pair (gd o4.2 0) .unit))]) fun _=>none) fun _=>none):=by kernel_rfl
theorem zJq (a0:D):z4M.F [a0]=rn (
 (z0t.F [a0]).bind fun r1=>
 (z0d (fun l2=>
 if (decide ((gd l2 1).i<((r1.fld 0).l.length:Int)))then
 (if (inb (gd l2 1).i (r1.fld 0).l.length)then
 if (gd l2 0).b then
 ou 0 [(.bool (!((gd (r1.fld 0).l (gd l2 1).i.toNat).s==([42]:List UInt8))))]
 else
 ou 0 [(.bool false)]
 else none).bind fun o4=>
 sel2 o4.1 (ou 0 [(gd o4.2 0),(.int (IntKind.wrap .i64 ((gd l2 1).i+1)))]) fun _=>none
 else
 ou 1 [(gd l2 0)]) [(r1.fld 1),(.int 0)]).bind fun o2=>
 sel2 o2.1 (ou 0 [(gd o2.2 0)]) fun _=>none):=by kernel_rfl
theorem zHw (a0:D):z5J.F [a0]=rn (
 (z4M.F [a0]).bind fun r1=>
 if (!r1.b)then
 ou 0 [(.pair (.pair (.str []) (.pair (.int 0) (.pair (D.lst []) .unit))) (.pair (.bool false) .unit))]
 else
 ou 0 [(.pair (.pair a0 (.pair (.int 0) (.pair (D.lst ((.pair a0 (.pair (.int 6) (.pair (.int 60) (.pair (D.str [48]) .unit))))::([]:List D))) .unit))) (.pair (.bool true) .unit))]):=by kernel_rfl
theorem zDP (a0:D):z48.F [a0]=rn (
 (z5J.F [a0]).bind fun r1=>
 if (!(r1.fld 1).b)then
 ou 0 [(.pair (.pair (.pair (.str []) (.pair (.int 0) (.pair (D.lst []) .unit))) (.pair (D.lst []) (.pair (.int 0) .unit))) (.pair (.bool false) .unit))]
 else
 ou 0 [(.pair (.pair (r1.fld 0) (.pair (D.lst []) (.pair (.int 0) .unit))) (.pair (.bool true) .unit))]):=by kernel_rfl
theorem zLa (a0:D):z2o.F [a0]=rn (
 if (appOk 48 ([]:List D) (a0.fld 2).l)then
 ou 0 [(a0.setFld 2 (D.lst (([]:List D)++(a0.fld 2).l)))]
 else none):=by kernel_rfl
theorem zJn (a0:D):z3j.F [a0]=rn (
 (z2o.F [(a0.fld 0)]).bind fun r1=>
 if (appOk 32 ([]:List D) (a0.fld 1).l)then
 ou 0 [((a0.setFld 0 r1).setFld 1 (D.lst (([]:List D)++(a0.fld 1).l)))]
 else none):=by kernel_rfl
theorem zEt (a0 a1:D):z4c.F [a0,a1]=rn (
 (z0t.F [a0]).bind fun r2=>
 (z0t.F [a1]).bind fun r3=>
 (z0d (fun l4=>
 (if (decide ((gd l4 0).i<=((r2.fld 0).l.length:Int)))then
 ou 0 [(.bool (decide ((gd l4 0).i<=((r3.fld 0).l.length:Int))))]
 else
 ou 0 [(.bool false)]).bind fun o5=>
 sel2 o5.1 (if (gd o5.2 0).b then
 if (inb (IntKind.wrap .i64 (((r2.fld 0).l.length:Int)-(gd l4 0).i)) (r2.fld 0).l.length)then
 if (inb (IntKind.wrap .i64 (((r3.fld 0).l.length:Int)-(gd l4 0).i)) (r3.fld 0).l.length)then
 if (Op.bytesLess (gd (r2.fld 0).l (IntKind.wrap .i64 (((r2.fld 0).l.length:Int)-(gd l4 0).i)).toNat).s (gd (r3.fld 0).l (IntKind.wrap .i64 (((r3.fld 0).l.length:Int)-(gd l4 0).i)).toNat).s)then
 ou 1 [(.int (-1))]
 else
 if (!(Op.bytesLess (gd (r2.fld 0).l (IntKind.wrap .i64 (((r2.fld 0).l.length:Int)-(gd l4 0).i)).toNat).s (gd (r3.fld 0).l (IntKind.wrap .i64 (((r3.fld 0).l.length:Int)-(gd l4 0).i)).toNat).s||(gd (r2.fld 0).l (IntKind.wrap .i64 (((r2.fld 0).l.length:Int)-(gd l4 0).i)).toNat).s==(gd (r3.fld 0).l (IntKind.wrap .i64 (((r3.fld 0).l.length:Int)-(gd l4 0).i)).toNat).s))then
 ou 1 [(.int 1)]
 else
 ou 0 [(.int (IntKind.wrap .i64 ((gd l4 0).i+1)))]
 else none
 else none
 else
 ou 2 []) fun _=>none) [(.int 1)]).bind fun o4=>
 sel2 o4.1 (ou 0 [(gd o4.2 0)]) fun n2=>
 sel2 n2 (if (decide (((r2.fld 0).l.length:Int)<((r3.fld 0).l.length:Int)))then
 ou 0 [(.int (-1))]
 else
 if (decide (((r2.fld 0).l.length:Int) > ((r3.fld 0).l.length:Int)))then
 ou 0 [(.int 1)]
 else
 ou 0 [(.int 0)]) fun _=>none):=by kernel_rfl
theorem zJo (a0:D):z4K.F [a0]=rn (
 if a0.b then
 ou 0 [(.int (-1))]
 else
 ou 0 [(.int 1)]):=by kernel_rfl
theorem zEv (a0 a1:D):z19.F [a0,a1]=rn (
 (z4c.F [(a0.fld 0),(a1.fld 0)]).bind fun r2=>
 if (r2.i != 0)then
 ou 0 [r2]
 else
 (z1c.F [(a0.fld 1),(a0.fld 3)]).bind fun r3=>
 (z1c.F [(a1.fld 1),(a1.fld 3)]).bind fun r4=>
 if ((a0.fld 1).i != (a1.fld 1).i)then
 (z4K.F [(.bool (decide ((a0.fld 1).i<(a1.fld 1).i)))]).bind fun r5=>
 ou 0 [r5]
 else
 if (!((r3.fld 0).s==(r4.fld 0).s))then
 (z4K.F [(.bool (Op.bytesLess (r3.fld 0).s (r4.fld 0).s))]).bind fun r5=>
 ou 0 [r5]
 else
 if ((a0.fld 2).i != (a1.fld 2).i)then
 (z4K.F [(.bool (decide ((a0.fld 2).i<(a1.fld 2).i)))]).bind fun r5=>
 ou 0 [r5]
 else
 ou 0 [(.int 0)]):=by kernel_rfl
theorem zJs (a0:D):z5y.F [a0]=rn (
 (z0d (fun l1=>
 if (decide ((gd l1 0).i<(a0.l.length:Int)))then
 if (inb (gd l1 0).i a0.l.length)then
 ((z1g.F [(gd a0.l (gd l1 0).i.toNat)]).bind fun r2=>
 if (!r2.b)then
 ou 0 [(.bool true)]
 else
 if (decide ((gd l1 0).i > 0))then
 if (inb (IntKind.wrap .i64 ((gd l1 0).i-1)) a0.l.length)then
 (z19.F [(gd a0.l (IntKind.wrap .i64 ((gd l1 0).i-1)).toNat),(gd a0.l (gd l1 0).i.toNat)]).bind fun r3=>
 ou 0 [(.bool (decide (r3.i >= 0)))]
 else none
 else
 ou 0 [(.bool false)]).bind fun o2=>
 sel2 o2.1 (if (gd o2.2 0).b then
 ou 1 []
 else
 ou 0 [(.int (IntKind.wrap .i64 ((gd l1 0).i+1)))]) fun _=>none
 else none
 else
 ou 2 []) [(.int 0)]).bind fun o1=>
 sel2 o1.1 (ou 0 [(.bool false)]) fun n2=>
 sel2 n2 (ou 0 [(.bool (decide ((a0.l.length:Int)<=40)))]) fun _=>none):=by kernel_rfl
theorem zHz (a0 a1:D):z22.F [a0,a1]=rn (
 (if (a1.s==([]:List UInt8))then
 ou 0 [(.bool true)]
 else
 if (a0.s==a1.s)then
 ou 0 [(.bool true)]
 else
 if (decide ((IntKind.wrap .i64 ((a0.s.length:Int)-(a1.s.length:Int))) > 0))then
 if (slOk (IntKind.wrap .i64 ((a0.s.length:Int)-(a1.s.length:Int))) (a0.s.length:Int) (a0.s.length:Int))then
 if (((a0.s.take (a0.s.length:Int).toNat).drop (IntKind.wrap .i64 ((a0.s.length:Int)-(a1.s.length:Int))).toNat)==a1.s)then
 if (inb (IntKind.wrap .i64 ((IntKind.wrap .i64 ((a0.s.length:Int)-(a1.s.length:Int)))-1)) a0.s.length)then
 ou 0 [(.bool ((byteAt a0.s (IntKind.wrap .i64 ((IntKind.wrap .i64 ((a0.s.length:Int)-(a1.s.length:Int)))-1)).toNat:Int)==46))]
 else none
 else
 ou 0 [(.bool false)]
 else none
 else
 ou 0 [(.bool false)]).bind fun o2=>
 sel2 o2.1 (ou 0 [(gd o2.2 0)]) fun _=>none):=by kernel_rfl
theorem zLZ (a0 a1 a2:D):z2H.F [a0,a1,a2]=rn (
 (z0d (fun l3=>
 if (decide ((gd l3 0).i<(a0.l.length:Int)))then
 if (inb (gd l3 0).i a0.l.length)then
 (if (((gd a0.l (gd l3 0).i.toNat).fld 0).s==a1.s)then
 ou 0 [(.bool (((gd a0.l (gd l3 0).i.toNat).fld 1).i==a2.i))]
 else
 ou 0 [(.bool false)]).bind fun o4=>
 sel2 o4.1 (if (gd o4.2 0).b then
 ou 1 [(.bool true)]
 else
 ou 0 [(.int (IntKind.wrap .i64 ((gd l3 0).i+1)))]) fun _=>none
 else none
 else
 ou 2 []) [(.int 0)]).bind fun o3=>
 sel2 o3.1 (ou 0 [(gd o3.2 0)]) fun n2=>
 sel2 n2 (ou 0 [(.bool false)]) fun _=>none):=by kernel_rfl
theorem zGt (a0:D):z4A.F [a0]=rn (
 (z0d (fun l1=>
 if (decide ((gd l1 0).i<(a0.s.length:Int)))then
 if (inb (gd l1 0).i a0.s.length)then
 if ((byteAt a0.s (gd l1 0).i.toNat:Int)==46)then
 if (slOk (IntKind.wrap .i64 ((gd l1 0).i+1)) (a0.s.length:Int) (a0.s.length:Int))then
 ou 1 [(.str ((a0.s.take (a0.s.length:Int).toNat).drop (IntKind.wrap .i64 ((gd l1 0).i+1)).toNat))]
 else none
 else
 ou 0 [(.int (IntKind.wrap .i64 ((gd l1 0).i+1)))]
 else none
 else
 ou 2 []) [(.int 0)]).bind fun o1=>
 sel2 o1.1 (ou 0 [(gd o1.2 0)]) fun n2=>
 sel2 n2 (ou 0 [(D.str [])]) fun _=>none):=by kernel_rfl
theorem zLY (a0 a1 a2:D):z5g.F [a0,a1,a2]=rn (
 (z0d (fun l3=>
 (if (!((gd l3 0).s==a0.s))then
 (z22.F [(gd l3 0),a0]).bind fun r6=>
 ou 0 [r6]
 else
 ou 0 [(.bool false)]).bind fun o6=>
 sel2 o6.1 (if (gd o6.2 0).b then
 ((z2H.F [a1,(gd l3 0),(.int 2)]).bind fun r7=>
 if r7.b then
 ou 0 [(gd l3 0),(.bool true)]
 else
 ou 0 [(gd l3 1),(gd l3 2)]).bind fun o7=>
 sel2 o7.1 (if ((gd l3 0).s==([]:List UInt8))then
 ou 1 [(gd o7.2 0),(gd o7.2 1)]
 else
 (z4A.F [(gd l3 0)]).bind fun r9=>
 ou 0 [r9,(gd o7.2 0),(gd o7.2 1)]) fun _=>none
 else
 ou 1 [(gd l3 1),(gd l3 2)]) fun _=>none) [a2,(D.str []),(.bool false)]).bind fun o3=>
 sel2 o3.1 (ou 0 [(.pair (gd o3.2 0) (.pair (gd o3.2 1) .unit))]) fun _=>none):=by kernel_rfl
theorem zJt (a0 a1:D):z4N.F [a0,a1]=rn (
 (z0d (fun l2=>
 if (decide ((gd l2 1).i<(a1.l.length:Int)))then
 (if (inb (gd l2 1).i a1.l.length)then
 (z22.F [((gd a1.l (gd l2 1).i.toNat).fld 0),a0]).bind fun r4=>
 if (!r4.b)then
 ou 1 [(.int 1)]
 else
 if (((gd a1.l (gd l2 1).i.toNat).fld 1).i==6)then
 if (!(((gd a1.l (gd l2 1).i.toNat).fld 0).s==a0.s))then
 ou 0 [(.int (IntKind.wrap .i64 ((IntKind.wrap .i64 ((gd l2 0).i+1))+1)))]
 else
 ou 0 [(.int (IntKind.wrap .i64 ((gd l2 0).i+1)))]
 else
 ou 0 [(gd l2 0)]
 else none).bind fun o4=>
 sel2 o4.1 (ou 0 [(gd o4.2 0),(.int (IntKind.wrap .i64 ((gd l2 1).i+1)))]) fun n8=>
 sel2 n8 (ou 1 [(gd o4.2 0)]) fun _=>none
 else
 ou 2 [(gd l2 0)]) [(.int 0),(.int 0)]).bind fun o2=>
 sel2 o2.1 (ou 0 [(gd o2.2 0)]) fun n2=>
 sel2 n2 (if ((gd o2.2 0).i != 1)then
 ou 0 [(.int 2)]
 else
 (z0d (fun l3=>
 if (decide ((gd l3 0).i<(a1.l.length:Int)))then
 if (inb (gd l3 0).i a1.l.length)then
 (if (decide ((gd l3 0).i > 0))then
 if (inb (IntKind.wrap .i64 ((gd l3 0).i-1)) a1.l.length)then
 if (((gd a1.l (IntKind.wrap .i64 ((gd l3 0).i-1)).toNat).fld 0).s==((gd a1.l (gd l3 0).i.toNat).fld 0).s)then
 if (((gd a1.l (IntKind.wrap .i64 ((gd l3 0).i-1)).toNat).fld 1).i==((gd a1.l (gd l3 0).i.toNat).fld 1).i)then
 if (((gd a1.l (IntKind.wrap .i64 ((gd l3 0).i-1)).toNat).fld 2).i != ((gd a1.l (gd l3 0).i.toNat).fld 2).i)then
 ou 0 [(.bool true)]
 else
 ou 0 [(.bool (((gd a1.l (IntKind.wrap .i64 ((gd l3 0).i-1)).toNat).fld 3).s==((gd a1.l (gd l3 0).i.toNat).fld 3).s))]
 else
 ou 0 [(.bool false)]
 else
 ou 0 [(.bool false)]
 else none
 else
 ou 0 [(.bool false)]).bind fun o4=>
 sel2 o4.1 (if (gd o4.2 0).b then
 ou 1 [(.int 3)]
 else
 ou 0 [(.int (IntKind.wrap .i64 ((gd l3 0).i+1)))]) fun _=>none
 else none
 else
 ou 2 []) [(.int 0)]).bind fun o3=>
 sel2 o3.1 (ou 0 [(gd o3.2 0)]) fun n6=>
 sel2 n6 ((z0d (fun l3=>
 if (decide ((gd l3 0).i<(a1.l.length:Int)))then
 if (inb (gd l3 0).i a1.l.length)then
 if (slOk 0 (gd l3 0).i (a1.l.length:Int))then
 (z0d (fun l4=>
 if (decide ((gd l4 0).i<(((a1.l.take (gd l3 0).i.toNat).drop 0).length:Int)))then
 if (inb (gd l4 0).i ((a1.l.take (gd l3 0).i.toNat).drop 0).length)then
 (if (((gd (D.lst ((a1.l.take (gd l3 0).i.toNat).drop 0)).l (gd l4 0).i.toNat).fld 0).s==((gd a1.l (gd l3 0).i.toNat).fld 0).s)then
 if (((gd (D.lst ((a1.l.take (gd l3 0).i.toNat).drop 0)).l (gd l4 0).i.toNat).fld 1).i==5)then
 ou 0 [(.bool true)]
 else
 ou 0 [(.bool (((gd a1.l (gd l3 0).i.toNat).fld 1).i==5))]
 else
 ou 0 [(.bool false)]).bind fun o5=>
 sel2 o5.1 (if (gd o5.2 0).b then
 ou 1 [(.int 4)]
 else
 ou 0 [(.int (IntKind.wrap .i64 ((gd l4 0).i+1)))]) fun _=>none
 else none
 else
 ou 2 []) [(.int 0)]).bind fun o4=>
 sel2 o4.1 (ou 1 [(gd o4.2 0)]) fun n14=>
 sel2 n14 (ou 0 [(.int (IntKind.wrap .i64 ((gd l3 0).i+1)))]) fun _=>none
 else none
 else none
 else
 ou 2 []) [(.int 0)]).bind fun o3=>
 sel2 o3.1 (ou 0 [(gd o3.2 0)]) fun n8=>
 sel2 n8 ((z2H.F [a1,a0,(.int 5)]).bind fun r3=>
 if r3.b then
 ou 0 [(.int 5)]
 else
 (z0d (fun l4=>
 if (decide ((gd l4 0).i<(a1.l.length:Int)))then
 if (inb (gd l4 0).i a1.l.length)then
 (z5g.F [a0,a1,((gd a1.l (gd l4 0).i.toNat).fld 0)]).bind fun r5=>
 (if (r5.fld 1).b then
 if (((gd a1.l (gd l4 0).i.toNat).fld 1).i != 1)then
 if (((gd a1.l (gd l4 0).i.toNat).fld 1).i != 2)then
 ou 0 [(.bool true)]
 else
 ou 0 [(.bool (!(((gd a1.l (gd l4 0).i.toNat).fld 0).s==(r5.fld 0).s)))]
 else
 ou 0 [(.bool false)]
 else
 ou 0 [(.bool false)]).bind fun o6=>
 sel2 o6.1 (if (gd o6.2 0).b then
 ou 1 [(.int 6)]
 else
 ou 0 [(.int (IntKind.wrap .i64 ((gd l4 0).i+1)))]) fun _=>none
 else none
 else
 ou 2 []) [(.int 0)]).bind fun o4=>
 sel2 o4.1 (ou 0 [(gd o4.2 0)]) fun n12=>
 sel2 n12 (ou 0 [(.int 0)]) fun _=>none) fun _=>none) fun _=>none) fun _=>none):=by kernel_rfl
theorem zJm (a0 a1:D):z5x.F [a0,a1]=rn (
 ((z4M.F [a0]).bind fun r2=>
 if (!r2.b)then
 ou 0 [(.bool true)]
 else
 (z5y.F [a1]).bind fun r3=>
 ou 0 [(.bool (!r3.b))]).bind fun o2=>
 sel2 o2.1 (if (gd o2.2 0).b then
 ou 0 [(.int 9)]
 else
 (z4N.F [a0,a1]).bind fun r3=>
 ou 0 [r3]) fun _=>none):=by kernel_rfl
theorem zLb (a0:D):z4H.F [a0]=rn (
 if (4294967296 != 0)then
 (z1Z.F [(.int ((a0.fld 1).i.tmod 4294967296))]).bind fun r1=>
 ou 0 [r1]
 else none):=by kernel_rfl
theorem zGq (a0:D):z3Q.F [a0]=rn (
 ((z0i.F [(a0.fld 1),(.int 0),(.int 1152921504606846976)]).bind fun r1=>
 if (!r1.b)then
 ou 0 [(.bool true)]
 else
 (z5x.F [(a0.fld 0),(a0.fld 2)]).bind fun r2=>
 ou 0 [(.bool (r2.i != 0))]).bind fun o1=>
 sel2 o1.1 (if (gd o1.2 0).b then
 ou 0 [(.bool false)]
 else
 (z0d (fun l2=>
 if (decide ((gd l2 0).i<((a0.fld 2).l.length:Int)))then
 if (inb (gd l2 0).i (a0.fld 2).l.length)then
 (if (((gd (a0.fld 2).l (gd l2 0).i.toNat).fld 1).i==6)then
 (z4H.F [a0]).bind fun r3=>
 ou 0 [(.bool (!(((gd (a0.fld 2).l (gd l2 0).i.toNat).fld 3).s==r3.s)))]
 else
 ou 0 [(.bool false)]).bind fun o3=>
 sel2 o3.1 (if (gd o3.2 0).b then
 ou 1 [(.bool false)]
 else
 ou 0 [(.int (IntKind.wrap .i64 ((gd l2 0).i+1)))]) fun _=>none
 else none
 else
 ou 2 []) [(.int 0)]).bind fun o2=>
 sel2 o2.1 (ou 0 [(gd o2.2 0)]) fun n6=>
 sel2 n6 (ou 0 [(.bool true)]) fun _=>none) fun _=>none):=by kernel_rfl
theorem zJr (a0 a1:D):z1r.F [a0,a1]=rn (
 (z0d (fun l2=>
 if (decide ((gd l2 1).i<(a0.l.length:Int)))then
 (if (inb (gd l2 1).i a0.l.length)then
 (if (!(((gd a0.l (gd l2 1).i.toNat).fld 0).s==(a1.fld 0).s))then
 ou 0 [(.bool true)]
 else
 if (((gd a0.l (gd l2 1).i.toNat).fld 1).i != (a1.fld 1).i)then
 ou 0 [(.bool true)]
 else
 ou 0 [(.bool (!(((gd a0.l (gd l2 1).i.toNat).fld 3).s==(a1.fld 3).s)))]).bind fun o4=>
 sel2 o4.1 (if (gd o4.2 0).b then
 if (appOk 48 (gd l2 0).l ((gd a0.l (gd l2 1).i.toNat)::([]:List D)))then
 ou 0 [(D.lst ((gd l2 0).l++((gd a0.l (gd l2 1).i.toNat)::([]:List D))))]
 else none
 else
 ou 0 [(gd l2 0)]) fun _=>none
 else none).bind fun o4=>
 sel2 o4.1 (ou 0 [(gd o4.2 0),(.int (IntKind.wrap .i64 ((gd l2 1).i+1)))]) fun _=>none
 else
 ou 1 [(gd l2 0)]) [(D.lst []),(.int 0)]).bind fun o2=>
 sel2 o2.1 (ou 0 [(gd o2.2 0)]) fun _=>none):=by kernel_rfl
theorem zLX (a0 a1:D):z4G.F [a0,a1]=rn (
 (z0d (fun l2=>
 (if (decide ((gd l2 0).i<(a0.l.length:Int)))then
 if (inb (gd l2 0).i a0.l.length)then
 (z19.F [(gd a0.l (gd l2 0).i.toNat),a1]).bind fun r3=>
 ou 0 [(.bool (decide (r3.i<0)))]
 else none
 else
 ou 0 [(.bool false)]).bind fun o3=>
 sel2 o3.1 (if (gd o3.2 0).b then
 ou 0 [(.int (IntKind.wrap .i64 ((gd l2 0).i+1)))]
 else
 ou 1 [(gd l2 0)]) fun _=>none) [(.int 0)]).bind fun o2=>
 sel2 o2.1 ((if (decide ((gd o2.2 0).i<(a0.l.length:Int)))then
 if (inb (gd o2.2 0).i a0.l.length)then
 ou 0 [(.bool (D.beq (gd a0.l (gd o2.2 0).i.toNat) a1))]
 else none
 else
 ou 0 [(.bool false)]).bind fun o3=>
 sel2 o3.1 (if (gd o3.2 0).b then
 ou 0 [a0]
 else
 if (slOk 0 (gd o2.2 0).i (a0.l.length:Int))then
 if (appOk 48 ([]:List D) ((a0.l.drop 0).take (((gd o2.2 0).i.toNat-0:Nat):Int).toNat))then
 if (appOk 48 (([]:List D)++((a0.l.drop 0).take (((gd o2.2 0).i.toNat-0:Nat):Int).toNat)) (a1::([]:List D)))then
 if (slOk (gd o2.2 0).i (a0.l.length:Int) (a0.l.length:Int))then
 if (appOk 48 ((([]:List D)++((a0.l.drop 0).take (((gd o2.2 0).i.toNat-0:Nat):Int).toNat))++(a1::([]:List D))) ((a0.l.drop (gd o2.2 0).i.toNat).take (((a0.l.length:Int).toNat-(gd o2.2 0).i.toNat:Nat):Int).toNat))then
 ou 0 [(D.lst (((([]:List D)++((a0.l.drop 0).take (((gd o2.2 0).i.toNat-0:Nat):Int).toNat))++(a1::([]:List D)))++((a0.l.drop (gd o2.2 0).i.toNat).take (((a0.l.length:Int).toNat-(gd o2.2 0).i.toNat:Nat):Int).toNat)))]
 else none
 else none
 else none
 else none
 else none) fun _=>none) fun _=>none):=by kernel_rfl
theorem zDN (a0 a1:D):z3H.F [a0,a1]=rn (
 (z3Q.F [a0]).bind fun r2=>
 if (!r2.b)then
 ou 0 [(.pair (.pair (.str []) (.pair (.int 0) (.pair (D.lst []) .unit))) (.pair (.int 1) .unit))]
 else
 (z3E.F [a1]).bind fun r3=>
 if (!r3.b)then
 (z2o.F [a0]).bind fun r4=>
 ou 0 [(.pair r4 (.pair (.int 1) .unit))]
 else
 (z0d (fun l4=>
 if (decide ((gd l4 0).i<(a1.l.length:Int)))then
 if (inb (gd l4 0).i a1.l.length)then
 (z2H.F [(a0.fld 2),(((gd a1.l (gd l4 0).i.toNat).fld 1).fld 0),(((gd a1.l (gd l4 0).i.toNat).fld 1).fld 1)]).bind fun r5=>
 (if (((gd a1.l (gd l4 0).i.toNat).fld 0).i==3)then
 if (!r5.b)then
 ou 0 [(.bool true)]
 else
 if (((gd a1.l (gd l4 0).i.toNat).fld 0).i==4)then
 ou 0 [r5]
 else
 ou 0 [(.bool false)]
 else
 if (((gd a1.l (gd l4 0).i.toNat).fld 0).i==4)then
 ou 0 [r5]
 else
 ou 0 [(.bool false)]).bind fun o6=>
 sel2 o6.1 (if (gd o6.2 0).b then
 (z2o.F [a0]).bind fun r7=>
 ou 1 [r7,(.int 2)]
 else
 ou 0 [(.int (IntKind.wrap .i64 ((gd l4 0).i+1)))]) fun _=>none
 else none
 else
 ou 2 []) [(.int 0)]).bind fun o4=>
 sel2 o4.1 (ou 0 [(.pair (gd o4.2 0) (.pair (gd o4.2 1) .unit))]) fun n6=>
 sel2 n6 (if (appOk 48 ([]:List D) (a0.fld 2).l)then
 (z0d (fun l4=>
 if (decide ((gd l4 1).i<(a1.l.length:Int)))then
 (if (inb (gd l4 1).i a1.l.length)then
 if (((gd a1.l (gd l4 1).i.toNat).fld 0).i==2)then
 (z1r.F [(gd l4 0),((gd a1.l (gd l4 1).i.toNat).fld 1)]).bind fun r6=>
 ou 0 [r6]
 else
 if (((gd a1.l (gd l4 1).i.toNat).fld 0).i==1)then
 (z1r.F [(gd l4 0),((gd a1.l (gd l4 1).i.toNat).fld 1)]).bind fun r6=>
 (z4G.F [r6,((gd a1.l (gd l4 1).i.toNat).fld 1)]).bind fun r7=>
 ou 0 [r7]
 else
 ou 0 [(gd l4 0)]
 else none).bind fun o6=>
 sel2 o6.1 (ou 0 [(gd o6.2 0),(.int (IntKind.wrap .i64 ((gd l4 1).i+1)))]) fun _=>none
 else
 ou 1 [(gd l4 0)]) [(D.lst (([]:List D)++(a0.fld 2).l)),(.int 0)]).bind fun o4=>
 sel2 o4.1 ((if (decide (((gd o4.2 0).l.length:Int) > 40))then
 ou 0 [(.bool true)]
 else
 ou 0 [(.bool ((a0.fld 1).i==1152921504606846976))]).bind fun o5=>
 sel2 o5.1 (if (gd o5.2 0).b then
 (z2o.F [a0]).bind fun r6=>
 ou 0 [(.pair r6 (.pair (.int 4) .unit))]
 else
 (z4N.F [(a0.fld 0),(gd o4.2 0)]).bind fun r6=>
 if (r6.i != 0)then
 (z2o.F [a0]).bind fun r7=>
 ou 0 [(.pair r7 (.pair (.int 3) .unit))]
 else
 (z0d (fun l7=>
 if (decide ((gd l7 1).i<((gd o4.2 0).l.length:Int)))then
 if (inb (gd l7 1).i (gd o4.2 0).l.length)then
 (if (((gd (gd o4.2 0).l (gd l7 1).i.toNat).fld 1).i==6)then
 (z4H.F [(gd l7 0)]).bind fun r9=>
 ou 0 [((gd (gd o4.2 0).l (gd l7 1).i.toNat).setFld 3 r9)]
 else
 ou 0 [(gd (gd o4.2 0).l (gd l7 1).i.toNat)]).bind fun o9=>
 sel2 o9.1 (if (appOk 48 ((gd l7 0).fld 2).l ((gd o9.2 0)::([]:List D)))then
 ou 0 [((gd l7 0).setFld 2 (D.lst (((gd l7 0).fld 2).l++((gd o9.2 0)::([]:List D))))),(.int (IntKind.wrap .i64 ((gd l7 1).i+1)))]
 else none) fun _=>none
 else none
 else
 ou 1 [(gd l7 0)]) [(.pair (a0.fld 0) (.pair (.int (IntKind.wrap .i64 ((a0.fld 1).i+1))) (.pair (D.lst []) .unit))),(.int 0)]).bind fun o7=>
 sel2 o7.1 (ou 0 [(.pair (gd o7.2 0) (.pair (.int 0) .unit))]) fun _=>none) fun _=>none) fun _=>none
 else none) fun _=>none):=by kernel_rfl
theorem zHx (a0 a1:D):z2h.F [a0,a1]=rn (
 (z2i.F [(a1.fld 0),(a1.fld 1)]).bind fun r2=>
 if (!r2.b)then
 ou 0 [(.pair (.pair (.pair (.str []) (.pair (.int 0) (.pair (D.lst []) .unit))) (.pair (D.lst []) (.pair (.int 0) .unit))) (.pair (.pair (.int 0) (.pair (.int 0) (.pair (.int 0) (.pair (.int 0) .unit)))) (.pair (.bool false) .unit)))]
 else
 (z0d (fun l3=>
 (if (decide ((gd l3 0).i<((a0.fld 1).l.length:Int)))then
 if (inb (gd l3 0).i (a0.fld 1).l.length)then
 ou 0 [(.bool (decide (((gd (a0.fld 1).l (gd l3 0).i.toNat).fld 0).i<(a1.fld 0).i)))]
 else none
 else
 ou 0 [(.bool false)]).bind fun o4=>
 sel2 o4.1 (if (gd o4.2 0).b then
 ou 0 [(.int (IntKind.wrap .i64 ((gd l3 0).i+1)))]
 else
 ou 1 [(gd l3 0)]) fun _=>none) [(.int 0)]).bind fun o3=>
 sel2 o3.1 ((if (decide ((gd o3.2 0).i<((a0.fld 1).l.length:Int)))then
 if (inb (gd o3.2 0).i (a0.fld 1).l.length)then
 ou 0 [(.bool (((gd (a0.fld 1).l (gd o3.2 0).i.toNat).fld 0).i==(a1.fld 0).i))]
 else none
 else
 ou 0 [(.bool false)]).bind fun o4=>
 sel2 o4.1 ((if (gd o4.2 0).b then
 if (inb (gd o3.2 0).i (a0.fld 1).l.length)then
 ou 0 [(.bool (((gd (a0.fld 1).l (gd o3.2 0).i.toNat).fld 1).i==(a1.fld 1).i))]
 else none
 else
 ou 0 [(.bool false)]).bind fun o5=>
 sel2 o5.1 (if (gd o5.2 0).b then
 if (inb (gd o3.2 0).i (a0.fld 1).l.length)then
 ou 0 [(.pair a0 (.pair (gd (a0.fld 1).l (gd o3.2 0).i.toNat) (.pair (.bool true) .unit)))]
 else none
 else
 (if (gd o4.2 0).b then
 if (inb (gd o3.2 0).i (a0.fld 1).l.length)then
 if (decide (((gd (a0.fld 1).l (gd o3.2 0).i.toNat).fld 1).i > (a1.fld 1).i))then
 ou 0 [(.bool true)]
 else
 if (!(gd o4.2 0).b)then
 if (((a0.fld 1).l.length:Int)==8)then
 ou 0 [(.bool true)]
 else
 ou 0 [(.bool ((a0.fld 2).i==1000000))]
 else
 ou 0 [(.bool ((a0.fld 2).i==1000000))]
 else none
 else
 if (!(gd o4.2 0).b)then
 if (((a0.fld 1).l.length:Int)==8)then
 ou 0 [(.bool true)]
 else
 ou 0 [(.bool ((a0.fld 2).i==1000000))]
 else
 ou 0 [(.bool ((a0.fld 2).i==1000000))]).bind fun o6=>
 sel2 o6.1 (if (gd o6.2 0).b then
 ou 0 [(.pair (.pair (.pair (.str []) (.pair (.int 0) (.pair (D.lst []) .unit))) (.pair (D.lst []) (.pair (.int 0) .unit))) (.pair (.pair (.int 0) (.pair (.int 0) (.pair (.int 0) (.pair (.int 0) .unit)))) (.pair (.bool false) .unit)))]
 else
 (z3H.F [(a0.fld 0),(a1.fld 2)]).bind fun r7=>
 if (4294967296 != 0)then
 if (slOk 0 (gd o3.2 0).i ((a0.fld 1).l.length:Int))then
 if (appOk 32 ([]:List D) (((a0.fld 1).l.drop 0).take (((gd o3.2 0).i.toNat-0:Nat):Int).toNat))then
 if (appOk 32 (([]:List D)++(((a0.fld 1).l.drop 0).take (((gd o3.2 0).i.toNat-0:Nat):Int).toNat)) ((.pair (a1.fld 0) (.pair (a1.fld 1) (.pair (r7.fld 1) (.pair (.int (((r7.fld 0).fld 1).i.tmod 4294967296)) .unit))))::([]:List D)))then
 (if (gd o4.2 0).b then
 ou 0 [(.int (IntKind.wrap .i64 ((gd o3.2 0).i+1)))]
 else
 ou 0 [(gd o3.2 0)]).bind fun o8=>
 sel2 o8.1 (if (slOk (gd o8.2 0).i ((a0.fld 1).l.length:Int) ((a0.fld 1).l.length:Int))then
 if (appOk 32 ((([]:List D)++(((a0.fld 1).l.drop 0).take (((gd o3.2 0).i.toNat-0:Nat):Int).toNat))++((.pair (a1.fld 0) (.pair (a1.fld 1) (.pair (r7.fld 1) (.pair (.int (((r7.fld 0).fld 1).i.tmod 4294967296)) .unit))))::([]:List D))) (((a0.fld 1).l.drop (gd o8.2 0).i.toNat).take ((((a0.fld 1).l.length:Int).toNat-(gd o8.2 0).i.toNat:Nat):Int).toNat))then
 ou 0 [(.pair (.pair (r7.fld 0) (.pair (D.lst (((([]:List D)++(((a0.fld 1).l.drop 0).take (((gd o3.2 0).i.toNat-0:Nat):Int).toNat))++((.pair (a1.fld 0) (.pair (a1.fld 1) (.pair (r7.fld 1) (.pair (.int (((r7.fld 0).fld 1).i.tmod 4294967296)) .unit))))::([]:List D)))++(((a0.fld 1).l.drop (gd o8.2 0).i.toNat).take ((((a0.fld 1).l.length:Int).toNat-(gd o8.2 0).i.toNat:Nat):Int).toNat))) (.pair (.int (IntKind.wrap .i64 ((a0.fld 2).i+1))) .unit))) (.pair (.pair (a1.fld 0) (.pair (a1.fld 1) (.pair (r7.fld 1) (.pair (.int (((r7.fld 0).fld 1).i.tmod 4294967296)) .unit)))) (.pair (.bool true) .unit)))]
 else none
 else none) fun _=>none
 else none
 else none
 else none
 else none) fun _=>none) fun _=>none) fun _=>none) fun _=>none):=by kernel_rfl
theorem zEq (a0 a1:D):z34.F [a0,a1]=rn (
 (z48.F [a0]).bind fun r2=>
 (if (!(r2.fld 1).b)then
 ou 0 [(.bool true)]
 else
 ou 0 [(.bool (decide ((a1.l.length:Int) > 40)))]).bind fun o3=>
 sel2 o3.1 (if (gd o3.2 0).b then
 ou 0 [(.pair (.pair (.pair (.str []) (.pair (.int 0) (.pair (D.lst []) .unit))) (.pair (D.lst []) (.pair (.int 0) .unit))) (.pair (D.lst []) (.pair (.bool false) .unit)))]
 else
 (z0d (fun l4=>
 if (decide ((gd l4 2).i<(a1.l.length:Int)))then
 if (inb (gd l4 2).i a1.l.length)then
 (z3j.F [(gd l4 0)]).bind fun r7=>
 (z2h.F [r7,(gd a1.l (gd l4 2).i.toNat)]).bind fun r8=>
 (if (r8.fld 2).b then
 ou 0 [(r8.fld 0)]
 else
 ou 0 [(gd l4 0)]).bind fun o9=>
 sel2 o9.1 (if (appOk 32 (gd l4 1).l ((r8.fld 1)::([]:List D)))then
 ou 0 [(gd o9.2 0),(D.lst ((gd l4 1).l++((r8.fld 1)::([]:List D)))),(.int (IntKind.wrap .i64 ((gd l4 2).i+1)))]
 else none) fun _=>none
 else none
 else
 ou 1 [(gd l4 0),(gd l4 1)]) [(r2.fld 0),(D.lst []),(.int 0)]).bind fun o4=>
 sel2 o4.1 ((z3j.F [(gd o4.2 0)]).bind fun r6=>
 ou 0 [(.pair r6 (.pair (gd o4.2 1) (.pair (.bool true) .unit)))]) fun _=>none) fun _=>none):=by kernel_rfl
theorem zAO (a0:D):z36.F [a0]=rn (
 (z1R.F [a0]).bind fun r1=>
 (if (decide (((r1.fld 0).l.length:Int) > 12))then
 if (slOk 0 12 ((r1.fld 0).l.length:Int))then
 if (winOk 0 ((12-0:Nat):Int).toNat (r1.fld 0).l)then
 ou 0 [(D.lst (((r1.fld 0).l.drop 0).take ((12-0:Nat):Int).toNat))]
 else none
 else none
 else
 ou 0 [(r1.fld 0)]).bind fun o2=>
 sel2 o2.1 ((z34.F [(D.str [101,120,46,99,111,109]),(gd o2.2 0)]).bind fun r3=>
 ((z09.F [(r1.fld 1),(.int 40)]).bind fun r4=>
 if ((r4.fld 0).i==0)then
 (z0e.F [(r4.fld 1),(D.lst ((.int (-1))::((.int 1000000)::((.int 1000001)::([]:List D)))))]).bind fun r5=>
 ou 0 [(r5.fld 1),((r3.fld 0).setFld 2 (r5.fld 0))]
 else
 if ((r4.fld 0).i==1)then
 (z09.F [(r4.fld 1),(.int 5)]).bind fun r5=>
 (z09.F [(r5.fld 1),(.int 3)]).bind fun r6=>
 if (appOk 32 ((r3.fld 0).fld 1).l ((.pair (r5.fld 0) (.pair (r6.fld 0) (.pair (.int 0) (.pair (.int 0) .unit))))::([]:List D)))then
 ou 0 [(r6.fld 1),((r3.fld 0).setFld 1 (D.lst (((r3.fld 0).fld 1).l++((.pair (r5.fld 0) (.pair (r6.fld 0) (.pair (.int 0) (.pair (.int 0) .unit))))::([]:List D)))))]
 else none
 else
 ou 0 [(r4.fld 1),(r3.fld 0)]).bind fun o4=>
 sel2 o4.1 (ou 0 [(.pair (gd o4.2 1) (.pair (gd o4.2 0) .unit))]) fun _=>none) fun _=>none):=by kernel_rfl
theorem zAN (a0:D):z2D.F [a0]=rn (
 (z36.F [(.pair a0 (.pair (.int 0) (.pair (.int 0) .unit)))]).bind fun r1=>
 (z0o.F [(r1.fld 1)]).bind fun r2=>
 ou 0 [(.pair (r1.fld 0) (.pair (r2.fld 0) .unit))]):=by kernel_rfl
theorem zEn (a0:D):z4X.F [a0]=rn (
 (z0j.F [a0,(.int 0),(.int 1152921504606846976)]).bind fun r1=>
 ou 0 [r1]):=by kernel_rfl
theorem zJi (a0:D):z5t.F [a0]=rn (
 ((z25.F [a0]).bind fun r1=>
 if r1.b then
 (z1j.F [a0,(D.str [42])]).bind fun r2=>
 ou 0 [(.bool (!r2.b))]
 else
 ou 0 [(.bool false)]).bind fun o1=>
 sel2 o1.1 (ou 0 [(gd o1.2 0)]) fun _=>none):=by kernel_rfl
theorem z6j (a0:D):z0u.F [a0]=rn (
 (z0d (fun l1=>
 if (decide ((gd l1 1).i<(gd l1 2).i))then
 if (inb (gd l1 2).i (gd l1 0).l.length)then
 if (inb (gd l1 1).i (gd l1 0).l.length)then
 ou 0 [(D.lst (((gd l1 0).l.set (gd l1 1).i.toNat (gd (gd l1 0).l (gd l1 2).i.toNat)).set (gd l1 2).i.toNat (gd (gd l1 0).l (gd l1 1).i.toNat))),(.int (IntKind.wrap .i64 ((gd l1 1).i+1))),(.int (IntKind.wrap .i64 ((gd l1 2).i-1)))]
 else none
 else none
 else
 ou 1 [(gd l1 0)]) [a0,(.int 0),(.int (IntKind.wrap .i64 ((a0.l.length:Int)-1)))]).bind fun o1=>
 sel2 o1.1 (ou 0 [(.pair .unit (.pair (gd o1.2 0) .unit))]) fun _=>none):=by kernel_rfl
theorem zC8 (a0:D):z2y.F [a0]=rn (
 ou 0 [(.bool (!(a0.s==a0.s)))]):=by kernel_rfl
theorem zAK (a0 a1:D):z1h.F [a0,a1]=rn (
 (z2y.F [a0]).bind fun r2=>
 (z2y.F [a1]).bind fun r3=>
 if r2.b then
 if r3.b then
 ou 0 [(.int 0)]
 else
 ou 0 [(.int (-1))]
 else
 if r3.b then
 ou 0 [(.int 1)]
 else
 if (Op.bytesLess a0.s a1.s)then
 ou 0 [(.int (-1))]
 else
 if (!(Op.bytesLess a0.s a1.s||a0.s==a1.s))then
 ou 0 [(.int 1)]
 else
 ou 0 [(.int 0)]):=by kernel_rfl
theorem z6i (a0 a1:D):z1D.F [a0,a1]=rn (
 (z0d (fun l2=>
 if (decide ((gd l2 0).i<(a0.l.length:Int)))then
 if (inb (gd l2 0).i a0.l.length)then
 if (decide ((gd l2 0).i >= (a1.l.length:Int)))then
 ou 1 [(.int 1)]
 else
 if (inb (gd l2 0).i a1.l.length)then
 (z1h.F [(gd a0.l (gd l2 0).i.toNat),(gd a1.l (gd l2 0).i.toNat)]).bind fun r3=>
 if (r3.i != 0)then
 ou 1 [r3]
 else
 ou 0 [(.int (IntKind.wrap .i64 ((gd l2 0).i+1)))]
 else none
 else none
 else
 ou 2 []) [(.int 0)]).bind fun o2=>
 sel2 o2.1 (ou 0 [(gd o2.2 0)]) fun n2=>
 sel2 n2 (if (decide ((a0.l.length:Int)<(a1.l.length:Int)))then
 ou 0 [(.int (-1))]
 else
 ou 0 [(.int 0)]) fun _=>none):=by kernel_rfl
theorem zBC (a0 a1:D):z3O.F [a0,a1]=rn (
 (z1o.F [a0]).bind fun r2=>
 (z1o.F [a1]).bind fun r3=>
 (z0u.F [r2]).bind fun r4=>
 (z0u.F [r3]).bind fun r5=>
 (z1D.F [(r4.fld 1),(r5.fld 1)]).bind fun r6=>
 ou 0 [r6]):=by kernel_rfl
theorem zGb (a0:D):z3x.F [a0]=rn (
 ou 0 [(.bool (a0.i != a0.i))]):=by kernel_rfl
theorem zDE (a0 a1:D):z1e.F [a0,a1]=rn (
 (z3x.F [a0]).bind fun r2=>
 (z3x.F [a1]).bind fun r3=>
 if r2.b then
 if r3.b then
 ou 0 [(.int 0)]
 else
 ou 0 [(.int (-1))]
 else
 if r3.b then
 ou 0 [(.int 1)]
 else
 if (decide (a0.i<a1.i))then
 ou 0 [(.int (-1))]
 else
 if (decide (a0.i > a1.i))then
 ou 0 [(.int 1)]
 else
 ou 0 [(.int 0)]):=by kernel_rfl
theorem zLT (a0:D):z4p.F [a0]=rn (
 (z0d (fun l1=>
 if (decide ((gd l1 0).i<(a0.l.length:Int)))then
 if (inb (gd l1 0).i a0.l.length)then
 if ((gd a0.l (gd l1 0).i.toNat).i != 0)then
 ou 1 [(gd a0.l (gd l1 0).i.toNat)]
 else
 ou 0 [(.int (IntKind.wrap .i64 ((gd l1 0).i+1)))]
 else none
 else
 ou 2 []) [(.int 0)]).bind fun o1=>
 sel2 o1.1 (ou 0 [(gd o1.2 0)]) fun n2=>
 sel2 n2 (ou 0 [(.int 0)]) fun _=>none):=by kernel_rfl
theorem zCB (a0 a1:D):z3h.F [a0,a1]=rn (
 (z3O.F [(a0.fld 0),(a1.fld 0)]).bind fun r2=>
 (z1e.F [(a0.fld 1),(a1.fld 1)]).bind fun r3=>
 (z4p.F [(D.lst (r2::(r3::([]:List D))))]).bind fun r4=>
 ou 0 [r4]):=by kernel_rfl
theorem zEm (a0 a1:D):z3e.F [a0,a1]=rn (
 (z18.F [a0,a1]).bind fun r2=>
 if (!(r2.fld 1).b)then
 ou 0 [(D.str [])]
 else
 ou 0 [(r2.fld 0)]):=by kernel_rfl
theorem z9e (a0 a1:D):z10.F [a0,a1]=rn (
 (z3h.F [a0,a1]).bind fun r2=>
 (z3e.F [(a0.fld 1),(a0.fld 3)]).bind fun r3=>
 (z3e.F [(a1.fld 1),(a1.fld 3)]).bind fun r4=>
 (z3J.F [r3,r4]).bind fun r5=>
 (z1e.F [(a0.fld 2),(a1.fld 2)]).bind fun r6=>
 (z4p.F [(D.lst (r2::(r5::(r6::([]:List D)))))]).bind fun r7=>
 ou 0 [r7]):=by kernel_rfl
theorem zEj (a0:D):z4V.F [a0]=rn (
 (z0d (fun l1=>
 if (decide ((gd l1 0).i<(a0.l.length:Int)))then
 if (inb (gd l1 0).i a0.l.length)then
 ((z1f.F [(gd a0.l (gd l1 0).i.toNat)]).bind fun r2=>
 if (!r2.b)then
 ou 0 [(.bool true)]
 else
 if (decide ((gd l1 0).i > 0))then
 if (inb (IntKind.wrap .i64 ((gd l1 0).i-1)) a0.l.length)then
 (z10.F [(gd a0.l (IntKind.wrap .i64 ((gd l1 0).i-1)).toNat),(gd a0.l (gd l1 0).i.toNat)]).bind fun r3=>
 ou 0 [(.bool (decide (r3.i >= 0)))]
 else none
 else
 ou 0 [(.bool false)]).bind fun o2=>
 sel2 o2.1 (if (gd o2.2 0).b then
 ou 1 []
 else
 ou 0 [(.int (IntKind.wrap .i64 ((gd l1 0).i+1)))]) fun _=>none
 else none
 else
 ou 2 []) [(.int 0)]).bind fun o1=>
 sel2 o1.1 (ou 0 [(.bool false)]) fun n2=>
 sel2 n2 (ou 0 [(.bool true)]) fun _=>none):=by kernel_rfl
theorem zHu (a0 a1:D):z5G.F [a0,a1]=rn (
 ((z5t.F [a0]).bind fun r2=>
 if r2.b then
 if (decide ((a1.l.length:Int)<=40))then
 (z4V.F [a1]).bind fun r3=>
 ou 0 [r3]
 else
 ou 0 [(.bool false)]
 else
 ou 0 [(.bool false)]).bind fun o2=>
 sel2 o2.1 (ou 0 [(gd o2.2 0)]) fun _=>none):=by kernel_rfl
theorem z6J (a0 a1:D):z14.F [a0,a1]=rn (
 (if (decide ((a0.s.length:Int) >= (a1.s.length:Int)))then
 if (slOk (IntKind.wrap .i64 ((a0.s.length:Int)-(a1.s.length:Int))) (a0.s.length:Int) (a0.s.length:Int))then
 ou 0 [(.bool (((a0.s.take (a0.s.length:Int).toNat).drop (IntKind.wrap .i64 ((a0.s.length:Int)-(a1.s.length:Int))).toNat)==a1.s))]
 else none
 else
 ou 0 [(.bool false)]).bind fun o2=>
 sel2 o2.1 (ou 0 [(gd o2.2 0)]) fun _=>none):=by kernel_rfl
theorem zBH (a0 a1:D):z3T.F [a0,a1]=rn (
 (z14.F [a0,a1]).bind fun r2=>
 ou 0 [r2]):=by kernel_rfl
theorem zHs (a0 a1:D):z3o.F [a0,a1]=rn (
 (if (a0.s==a1.s)then
 ou 0 [(.bool true)]
 else
 if (a1.s==([]:List UInt8))then
 ou 0 [(.bool true)]
 else
 if (catOk ([46]:List UInt8) a1.s)then
 (z3T.F [a0,(.str (([46]:List UInt8)++a1.s))]).bind fun r2=>
 ou 0 [r2]
 else none).bind fun o2=>
 sel2 o2.1 (ou 0 [(gd o2.2 0)]) fun _=>none):=by kernel_rfl
theorem zQI (a0 a1 a2:D):z42.F [a0,a1,a2]=rn (
 (z0d (fun l3=>
 if (decide ((gd l3 1).i<(a0.l.length:Int)))then
 (if (inb (gd l3 1).i a0.l.length)then
 (if (((gd a0.l (gd l3 1).i.toNat).fld 0).s==a1.s)then
 if (a2.i==0)then
 ou 0 [(.bool true)]
 else
 ou 0 [(.bool (((gd a0.l (gd l3 1).i.toNat).fld 1).i==a2.i))]
 else
 ou 0 [(.bool false)]).bind fun o5=>
 sel2 o5.1 (if (gd o5.2 0).b then
 if (appOk 48 (gd l3 0).l ((gd a0.l (gd l3 1).i.toNat)::([]:List D)))then
 ou 0 [(D.lst ((gd l3 0).l++((gd a0.l (gd l3 1).i.toNat)::([]:List D))))]
 else none
 else
 ou 0 [(gd l3 0)]) fun _=>none
 else none).bind fun o5=>
 sel2 o5.1 (ou 0 [(gd o5.2 0),(.int (IntKind.wrap .i64 ((gd l3 1).i+1)))]) fun _=>none
 else
 ou 1 [(gd l3 0)]) [(D.lst []),(.int 0)]).bind fun o3=>
 sel2 o3.1 (ou 0 [(gd o3.2 0)]) fun _=>none):=by kernel_rfl
theorem zGg (a0 a1:D):z43.F [a0,a1]=rn (
 (if ((a0.fld 2).i != (a1.fld 2).i)then
 ou 0 [(.bool true)]
 else
 if ((a0.fld 3).s==(a1.fld 3).s)then
 ou 0 [(.bool (!(D.beq a0 a1)))]
 else
 ou 0 [(.bool false)]).bind fun o2=>
 sel2 o2.1 (ou 0 [(gd o2.2 0)]) fun _=>none):=by kernel_rfl
theorem z2u (a0 a1:D):z0T.F [a0,a1]=rn (
 (z0d (fun l2=>
 if (decide ((gd l2 0).i<(a0.l.length:Int)))then
 if (inb (gd l2 0).i a0.l.length)then
 (z43.F [(gd a0.l (gd l2 0).i.toNat),(a1.fld 0)]).bind fun r3=>
 if r3.b then
 ou 1 [(gd l2 0)]
 else
 ou 0 [(.int (IntKind.wrap .i64 ((gd l2 0).i+1)))]
 else none
 else
 ou 2 []) [(.int 0)]).bind fun o2=>
 sel2 o2.1 (ou 0 [(gd o2.2 0)]) fun n2=>
 sel2 n2 (ou 0 [(.int (-1))]) fun _=>none):=by kernel_rfl
theorem z2U (a0 a1:D):z0N.F [a0,a1]=rn (
 (z0T.F [a0,a1]).bind fun r2=>
 ou 0 [(.bool (decide (r2.i >= 0)))]):=by kernel_rfl
theorem zGh (a0 a1 a2:D):z44.F [a0,a1,a2]=rn (
 (if ((a0.fld 1).i==2)then
 if (!((a0.fld 0).s==a1.s))then
 (z3o.F [(a2.fld 0),(a0.fld 0)]).bind fun r3=>
 ou 0 [r3]
 else
 ou 0 [(.bool false)]
 else
 ou 0 [(.bool false)]).bind fun o3=>
 sel2 o3.1 ((if (gd o3.2 0).b then
 if ((a2.fld 1).i != 1)then
 if ((a2.fld 1).i==2)then
 ou 0 [(.bool (!((a2.fld 0).s==(a0.fld 0).s)))]
 else
 ou 0 [(.bool (!false))]
 else
 ou 0 [(.bool false)]
 else
 ou 0 [(.bool false)]).bind fun o4=>
 sel2 o4.1 (ou 0 [(gd o4.2 0)]) fun _=>none) fun _=>none):=by kernel_rfl
theorem z2v (a0 a1:D):z0U.F [a0,a1]=rn (
 (z0d (fun l2=>
 if (decide ((gd l2 0).i<(a0.l.length:Int)))then
 if (inb (gd l2 0).i a0.l.length)then
 (z44.F [(gd a0.l (gd l2 0).i.toNat),(a1.fld 0),(a1.fld 1)]).bind fun r3=>
 if r3.b then
 ou 1 [(gd l2 0)]
 else
 ou 0 [(.int (IntKind.wrap .i64 ((gd l2 0).i+1)))]
 else none
 else
 ou 2 []) [(.int 0)]).bind fun o2=>
 sel2 o2.1 (ou 0 [(gd o2.2 0)]) fun n2=>
 sel2 n2 (ou 0 [(.int (-1))]) fun _=>none):=by kernel_rfl
theorem z2V (a0 a1:D):z0O.F [a0,a1]=rn (
 (z0U.F [a0,a1]).bind fun r2=>
 ou 0 [(.bool (decide (r2.i >= 0)))]):=by kernel_rfl
theorem zJh (a0 a1 a2 a3:D):z5s.F [a0,a1,a2,a3]=rn (
 if (a3.i==1)then
 (z3o.F [(a2.fld 0),a0]).bind fun r4=>
 ou 0 [(.bool (!r4.b))]
 else
 if (a3.i==2)then
 (if ((a2.fld 1).i==6)then
 ou 0 [(.bool (!((a2.fld 0).s==a0.s)))]
 else
 ou 0 [(.bool false)]).bind fun o4=>
 sel2 o4.1 (ou 0 [(gd o4.2 0)]) fun _=>none
 else
 if (a3.i==3)then
 (z42.F [a1,(a2.fld 0),(a2.fld 1)]).bind fun r4=>
 (z0N.F [r4,(.pair a2 .unit)]).bind fun r5=>
 ou 0 [r5]
 else
 if (a3.i==4)then
 (if ((a2.fld 1).i==5)then
 (z42.F [a1,(a2.fld 0),(.int 0)]).bind fun r4=>
 ou 0 [(.bool (decide ((r4.l.length:Int) > 1)))]
 else
 ou 0 [(.bool false)]).bind fun o4=>
 sel2 o4.1 (ou 0 [(gd o4.2 0)]) fun _=>none
 else
 if (a3.i==5)then
 (if ((a2.fld 1).i==5)then
 ou 0 [(.bool ((a2.fld 0).s==a0.s))]
 else
 ou 0 [(.bool false)]).bind fun o4=>
 sel2 o4.1 (ou 0 [(gd o4.2 0)]) fun _=>none
 else
 (z0O.F [a1,(.pair a0 (.pair a2 .unit))]).bind fun r4=>
 ou 0 [r4]):=by kernel_rfl
theorem zGf (a0 a1 a2 a3:D):z41.F [a0,a1,a2,a3]=rn (
 (z5s.F [a1,a2,a0,a3]).bind fun r4=>
 ou 0 [r4]):=by kernel_rfl
theorem z2t (a0 a1:D):z0S.F [a0,a1]=rn (
 (z0d (fun l2=>
 if (decide ((gd l2 0).i<(a0.l.length:Int)))then
 if (inb (gd l2 0).i a0.l.length)then
 (z41.F [(gd a0.l (gd l2 0).i.toNat),(a1.fld 0),(a1.fld 1),(a1.fld 2)]).bind fun r3=>
 if r3.b then
 ou 1 [(gd l2 0)]
 else
 ou 0 [(.int (IntKind.wrap .i64 ((gd l2 0).i+1)))]
 else none
 else
 ou 2 []) [(.int 0)]).bind fun o2=>
 sel2 o2.1 (ou 0 [(gd o2.2 0)]) fun n2=>
 sel2 n2 (ou 0 [(.int (-1))]) fun _=>none):=by kernel_rfl
theorem z2T (a0 a1:D):z0H.F [a0,a1]=rn (
 (z0S.F [a0,a1]).bind fun r2=>
 ou 0 [(.bool (decide (r2.i >= 0)))]):=by kernel_rfl
theorem zJg (a0 a1:D):z4J.F [a0,a1]=rn (
 (z5G.F [a0,a1]).bind fun r2=>
 if (!r2.b)then
 ou 0 [(.int 9)]
 else
 (z0d (fun l3=>
 if (decide ((gd l3 0).i<=6))then
 ((z0H.F [a1,(.pair a0 (.pair a1 (.pair (gd l3 0) .unit)))]).bind fun r4=>
 if r4.b then
 ou 0 [(.bool true)]
 else
 if ((gd l3 0).i==2)then
 (z42.F [a1,a0,(.int 6)]).bind fun r5=>
 ou 0 [(.bool ((r5.l.length:Int) != 1))]
 else
 ou 0 [(.bool false)]).bind fun o4=>
 sel2 o4.1 (if (gd o4.2 0).b then
 ou 1 [(gd l3 0)]
 else
 ou 0 [(.int (IntKind.wrap .i64 ((gd l3 0).i+1)))]) fun _=>none
 else
 ou 2 []) [(.int 1)]).bind fun o3=>
 sel2 o3.1 (ou 0 [(gd o3.2 0)]) fun n4=>
 sel2 n4 (ou 0 [(.int 0)]) fun _=>none):=by kernel_rfl
theorem zDM (a0:D):z2Z.F [a0]=rn (
 if (4294967296 != 0)then
 (z12.F [(.int (a0.i.tmod 4294967296))]).bind fun r1=>
 ou 0 [r1]
 else none):=by kernel_rfl
theorem zGe (a0:D):z3N.F [a0]=rn (
 ((z4X.F [(a0.fld 1)]).bind fun r1=>
 if r1.b then
 (z4J.F [(a0.fld 0),(a0.fld 2)]).bind fun r2=>
 if (r2.i==0)then
 (z42.F [(a0.fld 2),(a0.fld 0),(.int 6)]).bind fun r3=>
 if (inb 0 r3.l.length)then
 (z2Z.F [(a0.fld 1)]).bind fun r4=>
 ou 0 [(.bool (((gd r3.l 0).fld 3).s==r4.s))]
 else none
 else
 ou 0 [(.bool false)]
 else
 ou 0 [(.bool false)]).bind fun o1=>
 sel2 o1.1 (ou 0 [(gd o1.2 0)]) fun _=>none):=by kernel_rfl
theorem zGi (a0:D):z4q.F [a0]=rn (
 (z0j.F [a0,(.int 0),(.int 4294967295)]).bind fun r1=>
 ou 0 [r1]):=by kernel_rfl
theorem zCA (a0:D):z0z.F [a0]=rn (
 ((z3N.F [(a0.fld 0)]).bind fun r1=>
 if (!r1.b)then
 ou 0 [(.bool true)]
 else
 (z0j.F [(a0.fld 2),(.int 0),(.int 1000000)]).bind fun r2=>
 if (!r2.b)then
 ou 0 [(.bool true)]
 else
 ou 0 [(.bool (decide (((a0.fld 1).l.length:Int) > 8)))]).bind fun o1=>
 sel2 o1.1 (if (gd o1.2 0).b then
 ou 0 [(.bool false)]
 else
 (z0d (fun l2=>
 if (decide ((gd l2 0).i<((a0.fld 1).l.length:Int)))then
 if (inb (gd l2 0).i (a0.fld 1).l.length)then
 ((z1n.F [((gd (a0.fld 1).l (gd l2 0).i.toNat).fld 0),((gd (a0.fld 1).l (gd l2 0).i.toNat).fld 1)]).bind fun r3=>
 if (!r3.b)then
 ou 0 [(.bool true)]
 else
 (z0j.F [((gd (a0.fld 1).l (gd l2 0).i.toNat).fld 2),(.int 0),(.int 4)]).bind fun r4=>
 if (!r4.b)then
 ou 0 [(.bool true)]
 else
 (z4q.F [((gd (a0.fld 1).l (gd l2 0).i.toNat).fld 3)]).bind fun r5=>
 if (!r5.b)then
 ou 0 [(.bool true)]
 else
 if (decide ((gd l2 0).i > 0))then
 if (inb (IntKind.wrap .i64 ((gd l2 0).i-1)) (a0.fld 1).l.length)then
 ou 0 [(.bool (decide (((gd (a0.fld 1).l (gd l2 0).i.toNat).fld 0).i<=((gd (a0.fld 1).l (IntKind.wrap .i64 ((gd l2 0).i-1)).toNat).fld 0).i)))]
 else none
 else
 ou 0 [(.bool false)]).bind fun o3=>
 sel2 o3.1 (if (gd o3.2 0).b then
 ou 1 [(.bool false)]
 else
 ou 0 [(.int (IntKind.wrap .i64 ((gd l2 0).i+1)))]) fun _=>none
 else none
 else
 ou 2 []) [(.int 0)]).bind fun o2=>
 sel2 o2.1 (ou 0 [(gd o2.2 0)]) fun n6=>
 sel2 n6 (ou 0 [(.bool true)]) fun _=>none) fun _=>none):=by kernel_rfl
theorem z55 (a0:D):z0M.F [a0]=rn (
 two a0.l.isEmpty
 (ou 0 [(D.lst [])])
 (if (appOk 48 ([]:List D) a0.l)then
 ou 0 [(D.lst (([]:List D)++a0.l))]
 else none)):=by kernel_rfl
theorem zHv (a0:D):z5H.F [a0]=rn (
 (z0M.F [(a0.fld 2)]).bind fun r1=>
 ou 0 [(a0.setFld 2 r1)]):=by kernel_rfl
theorem z5m (a0:D):z0v.F [a0]=rn (
 two a0.l.isEmpty
 (ou 0 [(D.lst [])])
 (if (appOk 32 ([]:List D) a0.l)then
 ou 0 [(D.lst (([]:List D)++a0.l))]
 else none)):=by kernel_rfl
theorem zDK (a0:D):z47.F [a0]=rn (
 (z5H.F [(a0.fld 0)]).bind fun r1=>
 (z0v.F [(a0.fld 1)]).bind fun r2=>
 ou 0 [(.pair r1 (.pair r2 (.pair (a0.fld 2) .unit)))]):=by kernel_rfl
theorem z9d (a0 a1:D):z1V.F [a0,a1]=rn (
 (z1e.F [(a0.fld 0),a1]).bind fun r2=>
 ou 0 [r2]):=by kernel_rfl
theorem z1l (a0 a1 a2:D):z0R.F [a0,a1,a2]=rn (
 (z0d (fun l3=>
 if (decide ((gd l3 0).i<(gd l3 1).i))then
 if (decide (0<=1))then
 if (inb (IntKind.wrap .i64 ((IntKind.wrap .u64 (IntKind.wrap .i64 ((gd l3 0).i+(gd l3 1).i))).fdiv (2 ^ min 1 (IntKind.bits .u64)))) a0.l.length)then
 (z1V.F [(gd a0.l (IntKind.wrap .i64 ((IntKind.wrap .u64 (IntKind.wrap .i64 ((gd l3 0).i+(gd l3 1).i))).fdiv (2 ^ min 1 (IntKind.bits .u64)))).toNat),a1]).bind fun r5=>
 if (decide (r5.i<0))then
 ou 0 [(.int (IntKind.wrap .i64 ((IntKind.wrap .i64 ((IntKind.wrap .u64 (IntKind.wrap .i64 ((gd l3 0).i+(gd l3 1).i))).fdiv (2 ^ min 1 (IntKind.bits .u64))))+1))),(gd l3 1)]
 else
 ou 0 [(gd l3 0),(.int (IntKind.wrap .i64 ((IntKind.wrap .u64 (IntKind.wrap .i64 ((gd l3 0).i+(gd l3 1).i))).fdiv (2 ^ min 1 (IntKind.bits .u64)))))]
 else none
 else none
 else
 ou 1 [(gd l3 0)]) [(.int 0),(.int (a0.l.length:Int))]).bind fun o3=>
 sel2 o3.1 ((if (decide ((gd o3.2 0).i<(a0.l.length:Int)))then
 if (inb (gd o3.2 0).i a0.l.length)then
 (z1V.F [(gd a0.l (gd o3.2 0).i.toNat),a1]).bind fun r4=>
 ou 0 [(gd o3.2 0),(.bool (r4.i==0))]
 else none
 else
 ou 0 [(gd o3.2 0),(.bool false)]).bind fun o4=>
 sel2 o4.1 (ou 0 [(.pair (gd o4.2 0) (.pair (gd o4.2 1) .unit))]) fun _=>none) fun _=>none):=by kernel_rfl
theorem zBA (a0 a1:D):z1u.F [a0,a1]=rn (
 (z0R.F [(a0.fld 1),a1,.unit]).bind fun r2=>
 ou 0 [(.pair (r2.fld 0) (.pair (r2.fld 1) .unit))]):=by kernel_rfl
theorem zJj (a0 a1:D):z5u.F [a0,a1]=rn (
 (z42.F [(a0.fld 2),((a1.fld 1).fld 0),((a1.fld 1).fld 1)]).bind fun r2=>
 (if ((a1.fld 0).i==3)then
 if (!(decide ((r2.l.length:Int) > 0)))then
 ou 0 [(.bool true)]
 else
 if ((a1.fld 0).i==4)then
 ou 0 [(.bool (decide ((r2.l.length:Int) > 0)))]
 else
 ou 0 [(.bool false)]
 else
 if ((a1.fld 0).i==4)then
 ou 0 [(.bool (decide ((r2.l.length:Int) > 0)))]
 else
 ou 0 [(.bool false)]).bind fun o3=>
 sel2 o3.1 (ou 0 [(gd o3.2 0)]) fun _=>none):=by kernel_rfl
theorem zHp (a0 a1:D):z4h.F [a0,a1]=rn (
 (z5u.F [a1,a0]).bind fun r2=>
 ou 0 [r2]):=by kernel_rfl
theorem z2x (a0 a1:D):z0V.F [a0,a1]=rn (
 (z0d (fun l2=>
 if (decide ((gd l2 0).i<(a0.l.length:Int)))then
 if (inb (gd l2 0).i a0.l.length)then
 (z4h.F [(gd a0.l (gd l2 0).i.toNat),(a1.fld 0)]).bind fun r3=>
 if r3.b then
 ou 1 [(gd l2 0)]
 else
 ou 0 [(.int (IntKind.wrap .i64 ((gd l2 0).i+1)))]
 else none
 else
 ou 2 []) [(.int 0)]).bind fun o2=>
 sel2 o2.1 (ou 0 [(gd o2.2 0)]) fun n2=>
 sel2 n2 (ou 0 [(.int (-1))]) fun _=>none):=by kernel_rfl
theorem z2f (a0 a1:D):z0Q.F [a0,a1]=rn (
 (z0V.F [a0,a1]).bind fun r2=>
 ou 0 [(.bool (decide (r2.i >= 0)))]):=by kernel_rfl
theorem zEl (a0 a1:D):z1q.F [a0,a1]=rn (
 (if ((a0.fld 0).s==(a1.fld 0).s)then
 if ((a0.fld 1).i==(a1.fld 1).i)then
 ou 0 [(.bool ((a0.fld 3).s==(a1.fld 3).s))]
 else
 ou 0 [(.bool false)]
 else
 ou 0 [(.bool false)]).bind fun o2=>
 sel2 o2.1 (ou 0 [(gd o2.2 0)]) fun _=>none):=by kernel_rfl
theorem z2n (a0 a1:D):z0J.F [a0,a1]=rn (
 (z0d (fun l2=>
 if (decide ((gd l2 0).i<(a0.l.length:Int)))then
 if (inb (gd l2 0).i a0.l.length)then
 (z1q.F [(gd a0.l (gd l2 0).i.toNat),(a1.fld 0)]).bind fun r3=>
 if r3.b then
 ou 1 [(gd l2 0)]
 else
 ou 0 [(.int (IntKind.wrap .i64 ((gd l2 0).i+1)))]
 else none
 else
 ou 2 []) [(.int 0)]).bind fun o2=>
 sel2 o2.1 (ou 0 [(gd o2.2 0)]) fun n2=>
 sel2 n2 (ou 0 [(.int (-1))]) fun _=>none):=by kernel_rfl
theorem z2g (a0 a1:D):z0C.F [a0,a1]=rn (
 (z0J.F [a0,a1]).bind fun r2=>
 if (r2.i==(-1))then
 ou 0 [a0]
 else
 (z0d (fun l3=>
 if (decide ((gd l3 2).i<((gd l3 0).l.length:Int)))then
 (if (inb (gd l3 2).i (gd l3 0).l.length)then
 (z1q.F [(gd (gd l3 0).l (gd l3 2).i.toNat),(a1.fld 0)]).bind fun r6=>
 if (!r6.b)then
 if (inb (gd l3 1).i (gd l3 0).l.length)then
 ou 0 [(D.lst ((gd l3 0).l.set (gd l3 1).i.toNat (gd (gd l3 0).l (gd l3 2).i.toNat))),(.int (IntKind.wrap .i64 ((gd l3 1).i+1)))]
 else none
 else
 ou 0 [(gd l3 0),(gd l3 1)]
 else none).bind fun o6=>
 sel2 o6.1 (ou 0 [(gd o6.2 0),(gd o6.2 1),(.int (IntKind.wrap .i64 ((gd l3 2).i+1)))]) fun _=>none
 else
 ou 1 [(gd l3 0),(gd l3 1)]) [a0,r2,(.int (IntKind.wrap .i64 (r2.i+1)))]).bind fun o3=>
 sel2 o3.1 (if (slOk (gd o3.2 1).i ((gd o3.2 0).l.length:Int) ((gd o3.2 0).l.length:Int))then
 if (winOk (gd o3.2 1).i.toNat ((((gd o3.2 0).l.length:Int).toNat-(gd o3.2 1).i.toNat:Nat):Int).toNat (gd o3.2 0).l)then
 if (slOk 0 (gd o3.2 1).i ((((((gd o3.2 0).l.drop 0).take (gd o3.2 1).i.toNat)++(List.replicate ((((gd o3.2 0).l.length:Int).toNat-(gd o3.2 1).i.toNat:Nat):Int).toNat ((.pair (.str []) (.pair (.int 0) (.pair (.int 0) (.pair (.str []) .unit)))):D)))++(((((gd o3.2 0).l.drop (gd o3.2 1).i.toNat).take ((gd o3.2 0).l.length:Int).toNat).drop ((((gd o3.2 0).l.length:Int).toNat-(gd o3.2 1).i.toNat:Nat):Int).toNat).take ((gd o3.2 0).l.length:Int).toNat)).length:Int))then
 if (winOk 0 (((gd o3.2 1).i.toNat-0:Nat):Int).toNat (((((gd o3.2 0).l.drop 0).take (gd o3.2 1).i.toNat)++(List.replicate ((((gd o3.2 0).l.length:Int).toNat-(gd o3.2 1).i.toNat:Nat):Int).toNat ((.pair (.str []) (.pair (.int 0) (.pair (.int 0) (.pair (.str []) .unit)))):D)))++(((((gd o3.2 0).l.drop (gd o3.2 1).i.toNat).take ((gd o3.2 0).l.length:Int).toNat).drop ((((gd o3.2 0).l.length:Int).toNat-(gd o3.2 1).i.toNat:Nat):Int).toNat).take ((gd o3.2 0).l.length:Int).toNat)))then
 ou 0 [(D.lst (((((((gd o3.2 0).l.drop 0).take (gd o3.2 1).i.toNat)++(List.replicate ((((gd o3.2 0).l.length:Int).toNat-(gd o3.2 1).i.toNat:Nat):Int).toNat ((.pair (.str []) (.pair (.int 0) (.pair (.int 0) (.pair (.str []) .unit)))):D)))++(((((gd o3.2 0).l.drop (gd o3.2 1).i.toNat).take ((gd o3.2 0).l.length:Int).toNat).drop ((((gd o3.2 0).l.length:Int).toNat-(gd o3.2 1).i.toNat:Nat):Int).toNat).take ((gd o3.2 0).l.length:Int).toNat)).drop 0).take (((gd o3.2 1).i.toNat-0:Nat):Int).toNat))]
 else none
 else none
 else none
 else none) fun _=>none):=by kernel_rfl
theorem z1L (a0 a1 a2:D):z0A.F [a0,a1,a2]=rn (
 (z0d (fun l3=>
 if (decide ((gd l3 0).i<(gd l3 1).i))then
 if (decide (0<=1))then
 if (inb (IntKind.wrap .i64 ((IntKind.wrap .u64 (IntKind.wrap .i64 ((gd l3 0).i+(gd l3 1).i))).fdiv (2 ^ min 1 (IntKind.bits .u64)))) a0.l.length)then
 (z10.F [(gd a0.l (IntKind.wrap .i64 ((IntKind.wrap .u64 (IntKind.wrap .i64 ((gd l3 0).i+(gd l3 1).i))).fdiv (2 ^ min 1 (IntKind.bits .u64)))).toNat),a1]).bind fun r5=>
 if (decide (r5.i<0))then
 ou 0 [(.int (IntKind.wrap .i64 ((IntKind.wrap .i64 ((IntKind.wrap .u64 (IntKind.wrap .i64 ((gd l3 0).i+(gd l3 1).i))).fdiv (2 ^ min 1 (IntKind.bits .u64))))+1))),(gd l3 1)]
 else
 ou 0 [(gd l3 0),(.int (IntKind.wrap .i64 ((IntKind.wrap .u64 (IntKind.wrap .i64 ((gd l3 0).i+(gd l3 1).i))).fdiv (2 ^ min 1 (IntKind.bits .u64)))))]
 else none
 else none
 else
 ou 1 [(gd l3 0)]) [(.int 0),(.int (a0.l.length:Int))]).bind fun o3=>
 sel2 o3.1 ((if (decide ((gd o3.2 0).i<(a0.l.length:Int)))then
 if (inb (gd o3.2 0).i a0.l.length)then
 (z10.F [(gd a0.l (gd o3.2 0).i.toNat),a1]).bind fun r4=>
 ou 0 [(gd o3.2 0),(.bool (r4.i==0))]
 else none
 else
 ou 0 [(gd o3.2 0),(.bool false)]).bind fun o4=>
 sel2 o4.1 (ou 0 [(.pair (gd o4.2 0) (.pair (gd o4.2 1) .unit))]) fun _=>none) fun _=>none):=by kernel_rfl
theorem zOo (a0 a1:D):z6O.F [a0,a1]=rn (
 (z0A.F [a0,a1,.unit]).bind fun r2=>
 if (r2.fld 1).b then
 ou 0 [a0]
 else
 (z1Y.F [a0,(r2.fld 0),(D.lst (a1::([]:List D)))]).bind fun r3=>
 ou 0 [r3]):=by kernel_rfl
theorem zHq (a0 a1:D):z5D.F [a0,a1]=rn (
 (z0M.F [a0]).bind fun r2=>
 (z0d (fun l3=>
 if (decide ((gd l3 1).i<(a1.l.length:Int)))then
 (if (inb (gd l3 1).i a1.l.length)then
 (if (((gd a1.l (gd l3 1).i.toNat).fld 0).i != 1)then
 ou 0 [(.bool (((gd a1.l (gd l3 1).i.toNat).fld 0).i != 2))]
 else
 ou 0 [(.bool false)]).bind fun o5=>
 sel2 o5.1 (if (gd o5.2 0).b then
 ou 0 [(gd l3 0)]
 else
 (z0C.F [(gd l3 0),(.pair ((gd a1.l (gd l3 1).i.toNat).fld 1) .unit)]).bind fun r6=>
 if (((gd a1.l (gd l3 1).i.toNat).fld 0).i==1)then
 (z6O.F [r6,((gd a1.l (gd l3 1).i.toNat).fld 1)]).bind fun r7=>
 ou 0 [r7]
 else
 ou 0 [r6]) fun _=>none
 else none).bind fun o5=>
 sel2 o5.1 (ou 0 [(gd o5.2 0),(.int (IntKind.wrap .i64 ((gd l3 1).i+1)))]) fun _=>none
 else
 ou 1 [(gd l3 0)]) [r2,(.int 0)]).bind fun o3=>
 sel2 o3.1 (ou 0 [(gd o3.2 0)]) fun _=>none):=by kernel_rfl
theorem zHr (a0 a1:D):z5E.F [a0,a1]=rn (
 (z0M.F [a0]).bind fun r2=>
 (z0d (fun l3=>
 if (decide ((gd l3 1).i<(r2.l.length:Int)))then
 (if (inb (gd l3 1).i (gd l3 0).l.length)then
 if (((gd (gd l3 0).l (gd l3 1).i.toNat).fld 1).i==6)then
 (z2Z.F [a1]).bind fun r5=>
 ou 0 [(D.lst (upd (gd l3 0).l (gd l3 1).i.toNat 3 r5))]
 else
 ou 0 [(gd l3 0)]
 else none).bind fun o5=>
 sel2 o5.1 (ou 0 [(gd o5.2 0),(.int (IntKind.wrap .i64 ((gd l3 1).i+1)))]) fun _=>none
 else
 ou 1 [(gd l3 0)]) [r2,(.int 0)]).bind fun o3=>
 sel2 o3.1 (ou 0 [(gd o3.2 0)]) fun _=>none):=by kernel_rfl
theorem zLU (a0 a1:D):z5f.F [a0,a1]=rn (
 (z1w.F [a1]).bind fun r2=>
 if (!r2.b)then
 ou 0 [(.pair (.pair (.str []) (.pair (.int 0) (.pair (D.lst []) .unit))) (.pair (.int 1) .unit))]
 else
 (z0Q.F [a1,(.pair a0 .unit)]).bind fun r3=>
 if r3.b then
 ou 0 [(.pair (.pair (.str []) (.pair (.int 0) (.pair (D.lst []) .unit))) (.pair (.int 2) .unit))]
 else
 (z5D.F [(a0.fld 2),a1]).bind fun r4=>
 (if (decide ((r4.l.length:Int) > 40))then
 ou 0 [(.bool true)]
 else
 ou 0 [(.bool ((a0.fld 1).i==1152921504606846976))]).bind fun o5=>
 sel2 o5.1 (if (gd o5.2 0).b then
 ou 0 [(.pair (.pair (.str []) (.pair (.int 0) (.pair (D.lst []) .unit))) (.pair (.int 4) .unit))]
 else
 (z4J.F [(a0.fld 0),r4]).bind fun r6=>
 if (r6.i != 0)then
 ou 0 [(.pair (.pair (.str []) (.pair (.int 0) (.pair (D.lst []) .unit))) (.pair (.int 3) .unit))]
 else
 (z5E.F [r4,(.int (IntKind.wrap .i64 ((a0.fld 1).i+1)))]).bind fun r7=>
 ou 0 [(.pair (.pair (a0.fld 0) (.pair (.int (IntKind.wrap .i64 ((a0.fld 1).i+1))) (.pair r7 .unit))) (.pair (.int 0) .unit))]) fun _=>none):=by kernel_rfl
theorem zBB (a0 a1:D):z1G.F [a0,a1]=rn (
 (z1n.F [(a1.fld 0),(a1.fld 1)]).bind fun r2=>
 if (!r2.b)then
 ou 0 [(.pair (.pair (.pair (.str []) (.pair (.int 0) (.pair (D.lst []) .unit))) (.pair (D.lst []) (.pair (.int 0) .unit))) (.pair (.pair (.int 0) (.pair (.int 0) (.pair (.int 0) (.pair (.int 0) .unit)))) (.pair (.bool false) .unit)))]
 else
 (z47.F [a0]).bind fun r3=>
 (z1u.F [a0,(a1.fld 0)]).bind fun r4=>
 ((if (r4.fld 1).b then
 if (inb (r4.fld 0).i (a0.fld 1).l.length)then
 ou 0 [(.bool (((gd (a0.fld 1).l (r4.fld 0).i.toNat).fld 1).i==(a1.fld 1).i))]
 else none
 else
 ou 0 [(.bool false)]).bind fun o5=>
 sel2 o5.1 (if (gd o5.2 0).b then
 if (inb (r4.fld 0).i (a0.fld 1).l.length)then
 ou 1 [r3,(gd (a0.fld 1).l (r4.fld 0).i.toNat),(.bool true)]
 else none
 else
 ((if (r4.fld 1).b then
 if (inb (r4.fld 0).i (a0.fld 1).l.length)then
 ou 0 [(.bool (decide (((gd (a0.fld 1).l (r4.fld 0).i.toNat).fld 1).i > (a1.fld 1).i)))]
 else none
 else
 ou 0 [(.bool false)]).bind fun o6=>
 sel2 o6.1 (if (gd o6.2 0).b then
 ou 0 [(gd o6.2 0)]
 else
 (if (!(r4.fld 1).b)then
 ou 0 [(.bool (((a0.fld 1).l.length:Int)==8))]
 else
 ou 0 [(.bool false)]).bind fun o7=>
 sel2 o7.1 (if (gd o7.2 0).b then
 ou 0 [(gd o7.2 0)]
 else
 ou 0 [(.bool ((a0.fld 2).i==1000000))]) fun _=>none) fun _=>none).bind fun o6=>
 sel2 o6.1 (if (gd o6.2 0).b then
 ou 1 [(.pair (.pair (.str []) (.pair (.int 0) (.pair (D.lst []) .unit))) (.pair (D.lst []) (.pair (.int 0) .unit))),(.pair (.int 0) (.pair (.int 0) (.pair (.int 0) (.pair (.int 0) .unit)))),(.bool false)]
 else
 if (!(r4.fld 1).b)then
 (z1H.F [(r3.fld 1),(r4.fld 0),(D.lst ((.pair (.int 0) (.pair (.int 0) (.pair (.int 0) (.pair (.int 0) .unit))))::([]:List D)))]).bind fun r7=>
 ou 0 [(r3.setFld 1 r7)]
 else
 ou 0 [r3]) fun _=>none) fun _=>none).bind fun o5=>
 sel2 o5.1 ((z5f.F [((gd o5.2 0).fld 0),(a1.fld 2)]).bind fun r6=>
 (if ((r6.fld 1).i==0)then
 ou 0 [((gd o5.2 0).setFld 0 (r6.fld 0))]
 else
 ou 0 [(gd o5.2 0)]).bind fun o7=>
 sel2 o7.1 (if (4294967296 != 0)then
 if (inb (r4.fld 0).i ((gd o7.2 0).fld 1).l.length)then
 ou 0 [(.pair (((gd o7.2 0).setFld 2 (.int (IntKind.wrap .i64 (((gd o7.2 0).fld 2).i+1)))).setFld 1 (D.lst (((gd o7.2 0).fld 1).l.set (r4.fld 0).i.toNat (.pair (a1.fld 0) (.pair (a1.fld 1) (.pair (r6.fld 1) (.pair (.int ((((gd o7.2 0).fld 0).fld 1).i.tmod 4294967296)) .unit))))))) (.pair (.pair (a1.fld 0) (.pair (a1.fld 1) (.pair (r6.fld 1) (.pair (.int ((((gd o7.2 0).fld 0).fld 1).i.tmod 4294967296)) .unit)))) (.pair (.bool true) .unit)))]
 else none
 else none) fun _=>none) fun n4=>
 sel2 n4 (ou 0 [(.pair (gd o5.2 0) (.pair (gd o5.2 1) (.pair (gd o5.2 2) .unit)))]) fun _=>none):=by kernel_rfl
theorem zEi (a0 a1:D):z32.F [a0,a1]=rn (
 (z0z.F [a0]).bind fun r2=>
 if (!r2.b)then
 ou 0 [(.pair (.pair (.pair (.str []) (.pair (.int 0) (.pair (D.lst []) .unit))) (.pair (D.lst []) (.pair (.int 0) .unit))) (.pair (.pair (.int 0) (.pair (.int 0) (.pair (.int 0) (.pair (.int 0) .unit)))) (.pair (.bool false) .unit)))]
 else
 (z1G.F [a0,a1]).bind fun r3=>
 ou 0 [(.pair (r3.fld 0) (.pair (r3.fld 1) (.pair (r3.fld 2) .unit)))]):=by kernel_rfl
theorem zGv (a0:D):z4t.F [a0]=rn (
 (z0i.F [a0,(.int 0),(.int 4294967295)]).bind fun r1=>
 ou 0 [r1]):=by kernel_rfl
theorem zCD (a0:D):z27.F [a0]=rn (
 (z0d (fun l1=>
 if (decide ((gd l1 0).i<((a0.fld 1).l.length:Int)))then
 if (inb (gd l1 0).i (a0.fld 1).l.length)then
 ((z2i.F [((gd (a0.fld 1).l (gd l1 0).i.toNat).fld 0),((gd (a0.fld 1).l (gd l1 0).i.toNat).fld 1)]).bind fun r2=>
 if (!r2.b)then
 ou 0 [(.bool true)]
 else
 (z0i.F [((gd (a0.fld 1).l (gd l1 0).i.toNat).fld 2),(.int 0),(.int 4)]).bind fun r3=>
 if (!r3.b)then
 ou 0 [(.bool true)]
 else
 (z4t.F [((gd (a0.fld 1).l (gd l1 0).i.toNat).fld 3)]).bind fun r4=>
 if (!r4.b)then
 ou 0 [(.bool true)]
 else
 if (decide ((gd l1 0).i > 0))then
 if (inb (IntKind.wrap .i64 ((gd l1 0).i-1)) (a0.fld 1).l.length)then
 ou 0 [(.bool (decide (((gd (a0.fld 1).l (IntKind.wrap .i64 ((gd l1 0).i-1)).toNat).fld 0).i >= ((gd (a0.fld 1).l (gd l1 0).i.toNat).fld 0).i)))]
 else none
 else
 ou 0 [(.bool false)]).bind fun o2=>
 sel2 o2.1 (if (gd o2.2 0).b then
 ou 1 []
 else
 ou 0 [(.int (IntKind.wrap .i64 ((gd l1 0).i+1)))]) fun _=>none
 else none
 else
 ou 2 []) [(.int 0)]).bind fun o1=>
 sel2 o1.1 (ou 0 [(.bool false)]) fun n2=>
 sel2 n2 (((z3Q.F [(a0.fld 0)]).bind fun r1=>
 if r1.b then
 (z0i.F [(a0.fld 2),(.int 0),(.int 1000000)]).bind fun r2=>
 if r2.b then
 ou 0 [(.bool (decide (((a0.fld 1).l.length:Int)<=8)))]
 else
 ou 0 [(.bool false)]
 else
 ou 0 [(.bool false)]).bind fun o1=>
 sel2 o1.1 (ou 0 [(gd o1.2 0)]) fun _=>none) fun _=>none):=by kernel_rfl
theorem zEs (a0 a1:D):z4b.F [a0,a1]=rn (
 (z27.F [a0]).bind fun r2=>
 if (!r2.b)then
 ou 0 [(.pair (.pair (.pair (.str []) (.pair (.int 0) (.pair (D.lst []) .unit))) (.pair (D.lst []) (.pair (.int 0) .unit))) (.pair (.pair (.int 0) (.pair (.int 0) (.pair (.int 0) (.pair (.int 0) .unit)))) (.pair (.bool false) .unit)))]
 else
 (z3j.F [a0]).bind fun r3=>
 (z2h.F [r3,a1]).bind fun r4=>
 ou 0 [(.pair (r4.fld 0) (.pair (r4.fld 1) (.pair (r4.fld 2) .unit)))]):=by kernel_rfl
theorem zCC (a0 a1:D):z3i.F [a0,a1]=rn (
 if ((a0.l.length:Int) != (a1.l.length:Int))then
 ou 0 [(.bool false)]
 else
 (z0d (fun l2=>
 if (decide ((gd l2 0).i<(a0.l.length:Int)))then
 if (inb (gd l2 0).i a0.l.length)then
 if (inb (gd l2 0).i a1.l.length)then
 if (!(D.beq (gd a0.l (gd l2 0).i.toNat) (gd a1.l (gd l2 0).i.toNat)))then
 ou 1 []
 else
 ou 0 [(.int (IntKind.wrap .i64 ((gd l2 0).i+1)))]
 else none
 else none
 else
 ou 2 []) [(.int 0)]).bind fun o2=>
 sel2 o2.1 (ou 0 [(.bool false)]) fun n4=>
 sel2 n4 (ou 0 [(.bool true)]) fun _=>none):=by kernel_rfl
theorem zEo (a0 a1:D):z4Z.F [a0,a1]=rn (
 (if ((a0.fld 0).s==(a1.fld 0).s)then
 if ((a0.fld 1).i==(a1.fld 1).i)then
 (z3i.F [(a0.fld 2),(a1.fld 2)]).bind fun r2=>
 ou 0 [r2]
 else
 ou 0 [(.bool false)]
 else
 ou 0 [(.bool false)]).bind fun o2=>
 sel2 o2.1 (ou 0 [(gd o2.2 0)]) fun _=>none):=by kernel_rfl
theorem zGo (a0 a1:D):z3P.F [a0,a1]=rn (
 if ((a0.l.length:Int) != (a1.l.length:Int))then
 ou 0 [(.bool false)]
 else
 (z0d (fun l2=>
 if (decide ((gd l2 0).i<(a0.l.length:Int)))then
 if (inb (gd l2 0).i a0.l.length)then
 if (inb (gd l2 0).i a1.l.length)then
 if (!(D.beq (gd a0.l (gd l2 0).i.toNat) (gd a1.l (gd l2 0).i.toNat)))then
 ou 1 []
 else
 ou 0 [(.int (IntKind.wrap .i64 ((gd l2 0).i+1)))]
 else none
 else none
 else
 ou 2 []) [(.int 0)]).bind fun o2=>
 sel2 o2.1 (ou 0 [(.bool false)]) fun n4=>
 sel2 n4 (ou 0 [(.bool true)]) fun _=>none):=by kernel_rfl
theorem zBD (a0 a1:D):z1X.F [a0,a1]=rn (
 (if ((a0.fld 2).i==(a1.fld 2).i)then
 (z4Z.F [(a0.fld 0),(a1.fld 0)]).bind fun r2=>
 if r2.b then
 (z3P.F [(a0.fld 1),(a1.fld 1)]).bind fun r3=>
 ou 0 [r3]
 else
 ou 0 [(.bool false)]
 else
 ou 0 [(.bool false)]).bind fun o2=>
 sel2 o2.1 (ou 0 [(gd o2.2 0)]) fun _=>none):=by kernel_rfl
theorem zGc (a0 a1 a2:D):z3y.F [a0,a1,a2]=rn (
 (z0z.F [a0]).bind fun r3=>
 if (!r3.b)then
 ou 0 [(.pair (.pair (.int 0) (.pair (.int 0) (.pair (.int 0) (.pair (.int 0) .unit)))) (.pair (.bool false) .unit))]
 else
 (z1u.F [a0,a1]).bind fun r4=>
 (if (!(r4.fld 1).b)then
 ou 0 [(.bool true)]
 else
 if (inb (r4.fld 0).i (a0.fld 1).l.length)then
 ou 0 [(.bool (((gd (a0.fld 1).l (r4.fld 0).i.toNat).fld 1).i != a2.i))]
 else none).bind fun o5=>
 sel2 o5.1 (if (gd o5.2 0).b then
 ou 0 [(.pair (.pair (.int 0) (.pair (.int 0) (.pair (.int 0) (.pair (.int 0) .unit)))) (.pair (.bool false) .unit))]
 else
 if (inb (r4.fld 0).i (a0.fld 1).l.length)then
 ou 0 [(.pair (gd (a0.fld 1).l (r4.fld 0).i.toNat) (.pair (.bool true) .unit))]
 else none) fun _=>none):=by kernel_rfl
theorem zAM (a0:D):z2C.F [a0]=rn (
 ((z0h.F [(.pair a0 (.pair (.int 0) (.pair (.int 0) .unit))),(.int 12)]).bind fun r1=>
 if (r1.fld 0).b then
 (z2a.F [(r1.fld 1)]).bind fun r2=>
 ou 0 [(r2.fld 0),(r2.fld 1)]
 else
 ou 0 [(D.str [101,120,46,99,111,109]),(r1.fld 1)]).bind fun o1=>
 sel2 o1.1 ((z1R.F [(gd o1.2 1)]).bind fun r3=>
 ou 0 [(.pair (gd o1.2 0) (.pair (r3.fld 0) .unit))]) fun _=>none):=by kernel_rfl
theorem zHo (a0:D):z5C.F [a0]=rn (
 (z3N.F [(.pair a0 (.pair (.int 0) (.pair (D.lst ((.pair a0 (.pair (.int 6) (.pair (.int 60) (.pair (D.str [48]) .unit))))::([]:List D))) .unit)))]).bind fun r1=>
 if (!r1.b)then
 ou 0 [(.pair (.pair (.str []) (.pair (.int 0) (.pair (D.lst []) .unit))) (.pair (.bool false) .unit))]
 else
 ou 0 [(.pair (.pair a0 (.pair (.int 0) (.pair (D.lst ((.pair a0 (.pair (.int 6) (.pair (.int 60) (.pair (D.str [48]) .unit))))::([]:List D))) .unit))) (.pair (.bool true) .unit))]):=by kernel_rfl
theorem zDH (a0:D):z3z.F [a0]=rn (
 (z5C.F [a0]).bind fun r1=>
 if (!(r1.fld 1).b)then
 ou 0 [(.pair (.pair (.pair (.str []) (.pair (.int 0) (.pair (D.lst []) .unit))) (.pair (D.lst []) (.pair (.int 0) .unit))) (.pair (.bool false) .unit))]
 else
 ou 0 [(.pair (.pair (r1.fld 0) (.pair (D.lst []) (.pair (.int 0) .unit))) (.pair (.bool true) .unit))]):=by kernel_rfl
theorem zEg (a0 a1:D):z4U.F [a0,a1]=rn (
 (z3z.F [a0]).bind fun r2=>
 (if (!(r2.fld 1).b)then
 ou 0 [(.bool true)]
 else
 ou 0 [(.bool (decide ((a1.l.length:Int) > 40)))]).bind fun o3=>
 sel2 o3.1 (if (gd o3.2 0).b then
 ou 0 [(.pair (.pair (.pair (.str []) (.pair (.int 0) (.pair (D.lst []) .unit))) (.pair (D.lst []) (.pair (.int 0) .unit))) (.pair (D.lst []) (.pair (.bool false) .unit)))]
 else
 (z0d (fun l4=>
 if (decide ((gd l4 2).i<(a1.l.length:Int)))then
 if (inb (gd l4 2).i a1.l.length)then
 (z1G.F [(gd l4 0),(gd a1.l (gd l4 2).i.toNat)]).bind fun r7=>
 (if (r7.fld 2).b then
 ou 0 [(r7.fld 0)]
 else
 ou 0 [(gd l4 0)]).bind fun o8=>
 sel2 o8.1 (if (appOk 32 (gd l4 1).l ((r7.fld 1)::([]:List D)))then
 ou 0 [(gd o8.2 0),(D.lst ((gd l4 1).l++((r7.fld 1)::([]:List D)))),(.int (IntKind.wrap .i64 ((gd l4 2).i+1)))]
 else none) fun _=>none
 else none
 else
 ou 1 [(gd l4 0),(gd l4 1)]) [(r2.fld 0),(D.lst []),(.int 0)]).bind fun o4=>
 sel2 o4.1 (ou 0 [(.pair (gd o4.2 0) (.pair (gd o4.2 1) (.pair (.bool true) .unit)))]) fun _=>none) fun _=>none):=by kernel_rfl
theorem zAL (a0:D):z2B.F [a0]=rn (
 (z0o.F [(.pair a0 (.pair (.int 0) (.pair (.int 0) .unit)))]).bind fun r1=>
 ou 0 [(r1.fld 0)]):=by kernel_rfl
theorem zJl (a0 a1:D):z8Y.F [a0,a1]=rn (
 if (decide ((IntKind.wrap .i64 ((a0.l.length:Int)+(a1.l.length:Int))) > 1048576))then
 ou 0 [(.bool true)]
 else
 (z2D.F [a0]).bind fun r2=>
 (z32.F [(r2.fld 0),(r2.fld 1)]).bind fun r3=>
 (z4b.F [(r2.fld 0),(r2.fld 1)]).bind fun r4=>
 (if (!((r3.fld 2).b==(r4.fld 2).b))then
 ou 0 [(.bool true)]
 else
 if (!(D.beq (r3.fld 1) (r4.fld 1)))then
 ou 0 [(.bool true)]
 else
 (z1X.F [(r3.fld 0),(r4.fld 0)]).bind fun r5=>
 if (!r5.b)then
 ou 0 [(.bool true)]
 else
 (z0z.F [(r2.fld 0)]).bind fun r6=>
 (z27.F [(r2.fld 0)]).bind fun r7=>
 ou 0 [(.bool (!(r6.b==r7.b)))]).bind fun o5=>
 sel2 o5.1 (if (gd o5.2 0).b then
 ou 0 [(.bool false)]
 else
 (if (r3.fld 2).b then
 (z32.F [(r3.fld 0),(r2.fld 1)]).bind fun r6=>
 (z3y.F [(r3.fld 0),((r2.fld 1).fld 0),((r2.fld 1).fld 1)]).bind fun r7=>
 (if (!(r6.fld 2).b)then
 ou 0 [(.bool true)]
 else
 if (!(D.beq (r6.fld 1) (r3.fld 1)))then
 ou 0 [(.bool true)]
 else
 (z1X.F [(r6.fld 0),(r3.fld 0)]).bind fun r8=>
 if (!r8.b)then
 ou 0 [(.bool true)]
 else
 if (!(r7.fld 1).b)then
 ou 0 [(.bool true)]
 else
 if (!(D.beq (r7.fld 0) (r3.fld 1)))then
 ou 0 [(.bool true)]
 else
 if (((r3.fld 0).fld 2).i != ((r2.fld 0).fld 2).i)then
 if (((r3.fld 0).fld 2).i != (IntKind.wrap .i64 (((r2.fld 0).fld 2).i+1)))then
 ou 0 [(.bool true)]
 else
 (z0z.F [(r3.fld 0)]).bind fun r9=>
 ou 0 [(.bool (!r9.b))]
 else
 (z0z.F [(r3.fld 0)]).bind fun r9=>
 ou 0 [(.bool (!r9.b))]).bind fun o8=>
 sel2 o8.1 (if (gd o8.2 0).b then
 ou 1 [(.bool false)]
 else
 (z3y.F [(r2.fld 0),((r2.fld 1).fld 0),((r2.fld 1).fld 1)]).bind fun r9=>
 (if (!((r9.fld 1).b==(((r3.fld 0).fld 2).i==((r2.fld 0).fld 2).i)))then
 ou 0 [(.bool true)]
 else
 if (r9.fld 1).b then
 if (!(D.beq (r9.fld 0) (r3.fld 1)))then
 ou 0 [(.bool true)]
 else
 (z1X.F [(r3.fld 0),(r2.fld 0)]).bind fun r10=>
 ou 0 [(.bool (!r10.b))]
 else
 ou 0 [(.bool false)]).bind fun o10=>
 sel2 o10.1 (if (gd o10.2 0).b then
 ou 1 [(.bool false)]
 else
 ou 0 []) fun _=>none) fun _=>none
 else
 ou 0 []).bind fun o6=>
 sel2 o6.1 ((z2C.F [a1]).bind fun r6=>
 (z4U.F [(r6.fld 0),(r6.fld 1)]).bind fun r7=>
 (z34.F [(r6.fld 0),(r6.fld 1)]).bind fun r8=>
 (if (!((r7.fld 2).b==(r8.fld 2).b))then
 ou 0 [(.bool true)]
 else
 (z3P.F [(r7.fld 1),(r8.fld 1)]).bind fun r9=>
 if (!r9.b)then
 ou 0 [(.bool true)]
 else
 (z1X.F [(r7.fld 0),(r8.fld 0)]).bind fun r10=>
 ou 0 [(.bool (!r10.b))]).bind fun o9=>
 sel2 o9.1 (if (gd o9.2 0).b then
 ou 0 [(.bool false)]
 else
 (z2B.F [a1]).bind fun r10=>
 (z30.F [r10]).bind fun r11=>
 (z33.F [r10]).bind fun r12=>
 (if (!((r11.fld 1).b==(r12.fld 1).b))then
 ou 0 [(.bool true)]
 else
 ou 0 [(.bool (!((r11.fld 0).s==(r12.fld 0).s)))]).bind fun o13=>
 sel2 o13.1 (if (gd o13.2 0).b then
 ou 0 [(.bool false)]
 else
 if (!(r11.fld 1).b)then
 ou 0 [(.bool ((r11.fld 0).s==([]:List UInt8)))]
 else
 (z2G.F [(r11.fld 0)]).bind fun r14=>
 (if (!(r14.fld 1).b)then
 ou 0 [(.bool true)]
 else
 if (((r14.fld 0).fld 0).i != (r10.fld 0).i)then
 ou 0 [(.bool true)]
 else
 if (((r14.fld 0).fld 1).i != (r10.fld 1).i)then
 ou 0 [(.bool true)]
 else
 ou 0 [(.bool ((((r14.fld 0).fld 2).l.length:Int) != ((r10.fld 2).l.length:Int)))]).bind fun o15=>
 sel2 o15.1 (if (gd o15.2 0).b then
 ou 0 [(.bool false)]
 else
 (z0d (fun l16=>
 if (decide ((gd l16 0).i<((r10.fld 2).l.length:Int)))then
 if (inb (gd l16 0).i ((r14.fld 0).fld 2).l.length)then
 if (inb (gd l16 0).i (r10.fld 2).l.length)then
 if (!(D.beq (gd ((r14.fld 0).fld 2).l (gd l16 0).i.toNat) (gd (r10.fld 2).l (gd l16 0).i.toNat)))then
 ou 1 [(.bool false)]
 else
 ou 0 [(.int (IntKind.wrap .i64 ((gd l16 0).i+1)))]
 else none
 else none
 else
 ou 2 []) [(.int 0)]).bind fun o16=>
 sel2 o16.1 (ou 0 [(gd o16.2 0)]) fun n24=>
 sel2 n24 (ou 0 [(.bool true)]) fun _=>none) fun _=>none) fun _=>none) fun _=>none) fun n8=>
 sel2 n8 (ou 0 [(gd o6.2 0)]) fun _=>none) fun _=>none):=by kernel_rfl
end Go.Proofs.YtilejnnnkfjmmaaGreatDoor
