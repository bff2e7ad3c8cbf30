/- What each function gives, told as plain code. -/
import Derived.Test.YtilejnnnkfjmmaaGreatDoorC
set_option linter.unusedSectionVars false
set_option linter.unusedVariables false
set_option linter.unusedSimpArgs false
namespace Go.Proofs.YtilejnnnkfjmmaaGreatDoor
open Go Go.Own
set_option maxRecDepth 100000
theorem zEp (a0 a1 : D) : z0z.F [a0, a1] = rn (
 (z0c (fun l2 =>
 if (decide ((gd l2 2).i < (a0.s.length : Int))) then
 (if (inb (gd l2 2).i a0.s.length) then
 if ((byteAt a0.s (gd l2 2).i.toNat : Int) == a1.i) then
 if (slOk (gd l2 1).i (gd l2 2).i (a0.s.length : Int)) then
 if (appOk 16 (gd l2 0).l ((.str ((a0.s.take (gd l2 2).i.toNat).drop (gd l2 1).i.toNat)) :: ([] : List D))) then
 ou 0 [(D.lst ((gd l2 0).l ++ ((.str ((a0.s.take (gd l2 2).i.toNat).drop (gd l2 1).i.toNat)) :: ([] : List D)))), (.int (IntKind.wrap .i64 ((gd l2 2).i + 1)))]
 else none
 else none
 else
 ou 0 [(gd l2 0), (gd l2 1)]
 else none).bind fun o5 =>
 sel2 o5.1 (ou 0 [(gd o5.2 0), (gd o5.2 1), (.int (IntKind.wrap .i64 ((gd l2 2).i + 1)))]) fun _ => none
 else
 ou 1 [(gd l2 0), (gd l2 1)]) [(D.lst []), (.int 0), (.int 0)]).bind fun o2 =>
 sel2 o2.1 (if (slOk (gd o2.2 1).i (a0.s.length : Int) (a0.s.length : Int)) then
 if (appOk 16 (gd o2.2 0).l ((.str ((a0.s.take (a0.s.length : Int).toNat).drop (gd o2.2 1).i.toNat)) :: ([] : List D))) then
 ou 0 [(D.lst ((gd o2.2 0).l ++ ((.str ((a0.s.take (a0.s.length : Int).toNat).drop (gd o2.2 1).i.toNat)) :: ([] : List D))))]
 else none
 else none) fun _ => none) := by kernel_rfl
theorem zIU (a0 a1 a2 : D) : z0X.F [a0, a1, a2] = rn (
 (if (decide (a0.i ≥ a1.i)) then
 ou 0 [(.bool (decide (a0.i ≤ a2.i)))]
 else
 ou 0 [(.bool false)]).bind fun o3 =>
 sel2 o3.1 (ou 0 [(gd o3.2 0)]) fun _ => none) := by kernel_rfl
theorem zHT (a0 : D) : z0u.F [a0] = rn (
 ((z0X.F [(.int (a0.s.length : Int)), (.int 1), (.int 10)]).bind fun r1 =>
 if (!r1.b) then
 ou 0 [(.bool true)]
 else
 if (inb 0 a0.s.length) then
 if ((byteAt a0.s 0 : Int) == 48) then
 ou 0 [(.bool (decide ((a0.s.length : Int) > 1)))]
 else
 ou 0 [(.bool false)]
 else none).bind fun o1 =>
 sel2 o1.1 (if (gd o1.2 0).b then
 ou 0 [(.int (-1))]
 else
 (z0c (fun l2 =>
 if (decide ((gd l2 1).i < (a0.s.length : Int))) then
 (if (inb (gd l2 1).i a0.s.length) then
 if (decide ((byteAt a0.s (gd l2 1).i.toNat : Int) < 48)) then
 ou 0 [(.bool true)]
 else
 ou 0 [(.bool (decide ((byteAt a0.s (gd l2 1).i.toNat : Int) > 57)))]
 else none).bind fun o4 =>
 sel2 o4.1 (if (gd o4.2 0).b then
 ou 1 [(.int (-1))]
 else
 if (inb (gd l2 1).i a0.s.length) then
 ou 0 [(.int (IntKind.wrap .i64 ((IntKind.wrap .i64 (10 * (gd l2 0).i)) + (IntKind.wrap .i64 (IntKind.wrap .u8 ((byteAt a0.s (gd l2 1).i.toNat : Int) - 48)))))), (.int (IntKind.wrap .i64 ((gd l2 1).i + 1)))]
 else none) fun _ => none
 else
 ou 2 [(gd l2 0)]) [(.int 0), (.int 0)]).bind fun o2 =>
 sel2 o2.1 (ou 0 [(gd o2.2 0)]) fun n6 =>
 sel2 n6 (ou 0 [(gd o2.2 0)]) fun _ => none) fun _ => none) := by kernel_rfl
theorem z8J (a0 a1 : D) : z1K.F [a0, a1] = rn (
 if (makeOk 1 a1.i) then
 (z0c (fun l2 =>
 if (decide ((gd l2 2).i ≥ 0)) then
 if (inb (gd l2 2).i (gd l2 1).l.length) then
 if (decide (0 ≤ 8)) then
 ou 0 [(.int ((gd l2 0).i.fdiv (2 ^ min 8 (IntKind.bits .i64)))), (D.lst ((gd l2 1).l.set (gd l2 2).i.toNat (.int (IntKind.wrap .u8 (gd l2 0).i)))), (.int (IntKind.wrap .i64 ((gd l2 2).i - 1)))]
 else none
 else none
 else
 ou 1 [(gd l2 1)]) [a0, (D.lst (List.replicate a1.i.toNat ((.int 0) : D))), (.int (IntKind.wrap .i64 (a1.i - 1)))]).bind fun o2 =>
 sel2 o2.1 (ou 0 [(.str (z0i (gd o2.2 0).l))]) fun _ => none
 else none) := by kernel_rfl
theorem zEo (a0 : D) : z2v.F [a0] = rn (
 if (a0.s == ([42] : List UInt8)) then
 ou 0 [(.bool true)]
 else
 (z0c (fun l1 =>
 if (decide ((gd l1 0).i < (a0.s.length : Int))) then
 if (inb (gd l1 0).i a0.s.length) then
 (if (decide ((byteAt a0.s (gd l1 0).i.toNat : Int) ≥ 97)) then
 if (decide ((byteAt a0.s (gd l1 0).i.toNat : Int) ≤ 122)) then
 ou 0 [(.bool (!true))]
 else
 if (decide ((byteAt a0.s (gd l1 0).i.toNat : Int) ≥ 48)) then
 if (decide ((byteAt a0.s (gd l1 0).i.toNat : Int) ≤ 57)) then
 ou 0 [(.bool (!true))]
 else
 if ((byteAt a0.s (gd l1 0).i.toNat : Int) == 45) then
 ou 0 [(.bool (!true))]
 else
 ou 0 [(.bool (!((byteAt a0.s (gd l1 0).i.toNat : Int) == 95)))]
 else
 if ((byteAt a0.s (gd l1 0).i.toNat : Int) == 45) then
 ou 0 [(.bool (!true))]
 else
 ou 0 [(.bool (!((byteAt a0.s (gd l1 0).i.toNat : Int) == 95)))]
 else
 if (decide ((byteAt a0.s (gd l1 0).i.toNat : Int) ≥ 48)) then
 if (decide ((byteAt a0.s (gd l1 0).i.toNat : Int) ≤ 57)) then
 ou 0 [(.bool (!true))]
 else
 if ((byteAt a0.s (gd l1 0).i.toNat : Int) == 45) then
 ou 0 [(.bool (!true))]
 else
 ou 0 [(.bool (!((byteAt a0.s (gd l1 0).i.toNat : Int) == 95)))]
 else
 if ((byteAt a0.s (gd l1 0).i.toNat : Int) == 45) then
 ou 0 [(.bool (!true))]
 else
 ou 0 [(.bool (!((byteAt a0.s (gd l1 0).i.toNat : Int) == 95)))]).bind fun o2 =>
 sel2 o2.1 (if (gd o2.2 0).b then
 ou 1 []
 else
 ou 0 [(.int (IntKind.wrap .i64 ((gd l1 0).i + 1)))]) fun _ => none
 else none
 else
 ou 2 []) [(.int 0)]).bind fun o1 =>
 sel2 o1.1 (ou 0 [(.bool false)]) fun n4 =>
 sel2 n4 ((z0X.F [(.int (a0.s.length : Int)), (.int 1), (.int 20)]).bind fun r1 =>
 ou 0 [r1]) fun _ => none) := by kernel_rfl
theorem zDw (a0 : D) : z0k.F [a0] = rn (
 if (a0.s == ([] : List UInt8)) then
 ou 0 [(.pair (D.lst []) (.pair (.bool true) .unit))]
 else
 (z0z.F [a0, (.int 46)]).bind fun r1 =>
 (z0c (fun l2 =>
 if (decide ((gd l2 0).i < (r1.l.length : Int))) then
 if (inb (gd l2 0).i r1.l.length) then
 (z2v.F [(gd r1.l (gd l2 0).i.toNat)]).bind fun r3 =>
 if (!r3.b) then
 ou 1 []
 else
 ou 0 [(.int (IntKind.wrap .i64 ((gd l2 0).i + 1)))]
 else none
 else
 ou 2 []) [(.int 0)]).bind fun o2 =>
 sel2 o2.1 (ou 0 [(.pair (D.lst []) (.pair (.bool false) .unit))]) fun n4 =>
 sel2 n4 ((if (decide ((a0.s.length : Int) ≤ 60)) then
 ou 0 [r1, (.bool (decide ((r1.l.length : Int) ≤ 8)))]
 else
 ou 0 [r1, (.bool false)]).bind fun o2 =>
 sel2 o2.1 (ou 0 [(.pair (gd o2.2 0) (.pair (gd o2.2 1) .unit))]) fun _ => none) fun _ => none) := by kernel_rfl
theorem zDx (a0 : D) : z3K.F [a0] = rn (
 (z0k.F [a0]).bind fun r1 =>
 (z0c (fun l2 =>
 if (decide ((gd l2 1).i < ((r1.fld 0).l.length : Int))) then
 (if (inb (gd l2 1).i (r1.fld 0).l.length) then
 if (gd l2 0).b then
 ou 0 [(.bool (!((gd (r1.fld 0).l (gd l2 1).i.toNat).s == ([42] : List UInt8))))]
 else
 ou 0 [(.bool false)]
 else none).bind fun o4 =>
 sel2 o4.1 (ou 0 [(gd o4.2 0), (.int (IntKind.wrap .i64 ((gd l2 1).i + 1)))]) fun _ => none
 else
 ou 1 [(gd l2 0)]) [(r1.fld 1), (.int 0)]).bind fun o2 =>
 sel2 o2.1 ((if (gd o2.2 0).b then
 ou 0 [(.bool (!(a0.s == ([] : List UInt8))))]
 else
 ou 0 [(.bool false)]).bind fun o3 =>
 sel2 o3.1 (ou 0 [(gd o3.2 0)]) fun _ => none) fun _ => none) := by kernel_rfl
theorem zEq (a0 : D) : z3p.F [a0] = rn (
 (z0k.F [a0]).bind fun r1 =>
 (z0c (fun l2 =>
 if (decide ((gd l2 1).i < ((r1.fld 0).l.length : Int))) then
 if (inb (gd l2 1).i (r1.fld 0).l.length) then
 if (catOk (z0i ((.int (IntKind.wrap .u8 ((gd (r1.fld 0).l (gd l2 1).i.toNat).s.length : Int))) :: ([] : List D))) (gd (r1.fld 0).l (gd l2 1).i.toNat).s) then
 if (catOk (gd l2 0).s ((z0i ((.int (IntKind.wrap .u8 ((gd (r1.fld 0).l (gd l2 1).i.toNat).s.length : Int))) :: ([] : List D))) ++ (gd (r1.fld 0).l (gd l2 1).i.toNat).s)) then
 ou 0 [(.str ((gd l2 0).s ++ ((z0i ((.int (IntKind.wrap .u8 ((gd (r1.fld 0).l (gd l2 1).i.toNat).s.length : Int))) :: ([] : List D))) ++ (gd (r1.fld 0).l (gd l2 1).i.toNat).s))), (.int (IntKind.wrap .i64 ((gd l2 1).i + 1)))]
 else none
 else none
 else none
 else
 ou 1 [(gd l2 0)]) [(D.str []), (.int 0)]).bind fun o2 =>
 sel2 o2.1 (if (catOk (gd o2.2 0).s ([0] : List UInt8)) then
 ou 0 [(.str ((gd o2.2 0).s ++ ([0] : List UInt8)))]
 else none) fun _ => none) := by kernel_rfl
theorem z92 (a0 a1 : D) : z25.F [a0, a1] = rn (
 if (a0.i == 1) then
 (z0z.F [a1, (.int 46)]).bind fun r2 =>
 (z0c (fun l3 =>
 if (decide ((gd l3 1).i < (r2.l.length : Int))) then
 if (inb (gd l3 1).i r2.l.length) then
 (z0u.F [(gd r2.l (gd l3 1).i.toNat)]).bind fun r5 =>
 (z0X.F [r5, (.int 0), (.int 255)]).bind fun r6 =>
 if (!r6.b) then
 ou 1 []
 else
 (z1K.F [r5, (.int 1)]).bind fun r7 =>
 if (catOk (gd l3 0).s r7.s) then
 ou 0 [(.str ((gd l3 0).s ++ r7.s)), (.int (IntKind.wrap .i64 ((gd l3 1).i + 1)))]
 else none
 else none
 else
 ou 2 [(gd l3 0)]) [(D.str []), (.int 0)]).bind fun o3 =>
 sel2 o3.1 (ou 0 [(.pair (D.str []) (.pair (.bool false) .unit))]) fun n4 =>
 sel2 n4 (ou 0 [(.pair (gd o3.2 0) (.pair (.bool ((r2.l.length : Int) == 4)) .unit))]) fun _ => none
 else
 (if (a0.i == 2) then
 ou 0 [(.bool (a0.i == 2))]
 else
 ou 0 [(.bool (a0.i == 5))]).bind fun o2 =>
 sel2 o2.1 (if (gd o2.2 0).b then
 (z3K.F [a1]).bind fun r3 =>
 if (!r3.b) then
 ou 0 [(.pair (D.str []) (.pair (.bool false) .unit))]
 else
 (z3p.F [a1]).bind fun r4 =>
 ou 0 [(.pair r4 (.pair (.bool true) .unit))]
 else
 if (a0.i == 6) then
 (z0u.F [a1]).bind fun r3 =>
 (z1K.F [r3, (.int 4)]).bind fun r4 =>
 (z0X.F [r3, (.int 0), (.int 4294967295)]).bind fun r5 =>
 ou 0 [(.pair r4 (.pair r5 .unit))]
 else
 if (a0.i == 15) then
 (z0z.F [a1, (.int 32)]).bind fun r3 =>
 (if ((r3.l.length : Int) != 2) then
 ou 0 [(.bool true)]
 else
 if (inb 0 r3.l.length) then
 (z0u.F [(gd r3.l 0)]).bind fun r4 =>
 (z0X.F [r4, (.int 0), (.int 65535)]).bind fun r5 =>
 if (!r5.b) then
 ou 0 [(.bool true)]
 else
 if (inb 1 r3.l.length) then
 (z3K.F [(gd r3.l 1)]).bind fun r6 =>
 ou 0 [(.bool (!r6.b))]
 else none
 else none).bind fun o4 =>
 sel2 o4.1 (if (gd o4.2 0).b then
 ou 0 [(.pair (D.str []) (.pair (.bool false) .unit))]
 else
 if (inb 0 r3.l.length) then
 (z0u.F [(gd r3.l 0)]).bind fun r5 =>
 (z1K.F [r5, (.int 2)]).bind fun r6 =>
 if (inb 1 r3.l.length) then
 (z3p.F [(gd r3.l 1)]).bind fun r7 =>
 if (catOk r6.s r7.s) then
 ou 0 [(.pair (.str (r6.s ++ r7.s)) (.pair (.bool true) .unit))]
 else none
 else none
 else none) fun _ => none
 else
 if (a0.i == 16) then
 (z0c (fun l3 =>
 if (decide ((gd l3 0).i < (a1.s.length : Int))) then
 (if (inb (gd l3 0).i a1.s.length) then
 if (decide ((byteAt a1.s (gd l3 0).i.toNat : Int) < 32)) then
 ou 0 [(.bool true)]
 else
 ou 0 [(.bool (decide ((byteAt a1.s (gd l3 0).i.toNat : Int) > 126)))]
 else none).bind fun o4 =>
 sel2 o4.1 (if (gd o4.2 0).b then
 ou 1 [(D.str []), (.bool false)]
 else
 ou 0 [(.int (IntKind.wrap .i64 ((gd l3 0).i + 1)))]) fun _ => none
 else
 ou 2 []) [(.int 0)]).bind fun o3 =>
 sel2 o3.1 (ou 0 [(.pair (gd o3.2 0) (.pair (gd o3.2 1) .unit))]) fun n14 =>
 sel2 n14 (if (catOk (z0i ((.int (IntKind.wrap .u8 (a1.s.length : Int))) :: ([] : List D))) a1.s) then
 ou 0 [(.pair (.str ((z0i ((.int (IntKind.wrap .u8 (a1.s.length : Int))) :: ([] : List D))) ++ a1.s)) (.pair (.bool (decide ((a1.s.length : Int) ≤ 30))) .unit))]
 else none) fun _ => none
 else
 ou 0 [(.pair (D.str []) (.pair (.bool false) .unit))]) fun _ => none) := by kernel_rfl
theorem zDv (a0 : D) : z44.F [a0] = rn (
 (z0k.F [a0]).bind fun r1 =>
 ou 0 [(r1.fld 1)]) := by kernel_rfl
theorem zBH (a0 : D) : z1A.F [a0] = rn (
 (z25.F [(a0.fld 1), (a0.fld 3)]).bind fun r1 =>
 (if (r1.fld 1).b then
 (z44.F [(a0.fld 0)]).bind fun r2 =>
 if r2.b then
 (z0X.F [(a0.fld 2), (.int 0), (.int 100000)]).bind fun r3 =>
 ou 0 [r3]
 else
 ou 0 [(.bool false)]
 else
 ou 0 [(.bool false)]).bind fun o2 =>
 sel2 o2.1 (ou 0 [(gd o2.2 0)]) fun _ => none) := by kernel_rfl
theorem zHU (k : Nat) (a0 : D) : z3h (k + 1) [a0] = rn (
 if (decide (a0.i < 10)) then
 ou 0 [(.str (z0i ((.int (IntKind.wrap .u8 (IntKind.wrap .i64 (48 + a0.i)))) :: ([] : List D))))]
 else
 if (10 != 0) then
 (z3h k [(.int (IntKind.wrap .i64 (a0.i.tdiv 10)))]).bind fun r1 =>
 if (catOk r1.s (z0i ((.int (IntKind.wrap .u8 (IntKind.wrap .i64 (48 + (a0.i.tmod 10))))) :: ([] : List D)))) then
 ou 0 [(.str (r1.s ++ (z0i ((.int (IntKind.wrap .u8 (IntKind.wrap .i64 (48 + (a0.i.tmod 10))))) :: ([] : List D)))))]
 else none
 else none) := by kernel_rfl
theorem zGK (a0 : D) : z3T.F [a0] = rn (
 (if ((a0.fld 0).s == ([] : List UInt8)) then
 ou 0 [(D.str [46])]
 else
 ou 0 [(a0.fld 0)]).bind fun o1 =>
 sel2 o1.1 (if (catOk (gd o1.2 0).s ([32] : List UInt8)) then
 (z1E.F [(a0.fld 2)]).bind fun r2 =>
 if (catOk ((gd o1.2 0).s ++ ([32] : List UInt8)) r2.s) then
 if (catOk (((gd o1.2 0).s ++ ([32] : List UInt8)) ++ r2.s) ([32] : List UInt8)) then
 (z1E.F [(a0.fld 1)]).bind fun r3 =>
 if (catOk ((((gd o1.2 0).s ++ ([32] : List UInt8)) ++ r2.s) ++ ([32] : List UInt8)) r3.s) then
 if (catOk (((((gd o1.2 0).s ++ ([32] : List UInt8)) ++ r2.s) ++ ([32] : List UInt8)) ++ r3.s) ([32] : List UInt8)) then
 if (catOk ((((((gd o1.2 0).s ++ ([32] : List UInt8)) ++ r2.s) ++ ([32] : List UInt8)) ++ r3.s) ++ ([32] : List UInt8)) (a0.fld 3).s) then
 ou 0 [(.str (((((((gd o1.2 0).s ++ ([32] : List UInt8)) ++ r2.s) ++ ([32] : List UInt8)) ++ r3.s) ++ ([32] : List UInt8)) ++ (a0.fld 3).s))]
 else none
 else none
 else none
 else none
 else none
 else none) fun _ => none) := by kernel_rfl
theorem zBI (a0 : D) : z3I.F [a0] = rn (
 (z0z.F [a0, (.int 32)]).bind fun r1 =>
 if (decide ((r1.l.length : Int) < 4)) then
 ou 0 [(.pair (.pair (.str []) (.pair (.int 0) (.pair (.int 0) (.pair (.str []) .unit)))) (.pair (.bool false) .unit))]
 else
 if (inb 0 r1.l.length) then
 if (inb 1 r1.l.length) then
 (z0u.F [(gd r1.l 1)]).bind fun r2 =>
 if (inb 2 r1.l.length) then
 (z0u.F [(gd r1.l 2)]).bind fun r3 =>
 if (slOk (IntKind.wrap .i64 ((IntKind.wrap .i64 ((IntKind.wrap .i64 (((gd r1.l 0).s.length : Int) + ((gd r1.l 1).s.length : Int))) + ((gd r1.l 2).s.length : Int))) + 3)) (a0.s.length : Int) (a0.s.length : Int)) then
 (if ((gd r1.l 0).s == ([46] : List UInt8)) then
 ou 0 [(.pair (D.str []) (.pair r3 (.pair r2 (.pair (.str ((a0.s.take (a0.s.length : Int).toNat).drop (IntKind.wrap .i64 ((IntKind.wrap .i64 ((IntKind.wrap .i64 (((gd r1.l 0).s.length : Int) + ((gd r1.l 1).s.length : Int))) + ((gd r1.l 2).s.length : Int))) + 3)).toNat)) .unit))))]
 else
 ou 0 [(.pair (gd r1.l 0) (.pair r3 (.pair r2 (.pair (.str ((a0.s.take (a0.s.length : Int).toNat).drop (IntKind.wrap .i64 ((IntKind.wrap .i64 ((IntKind.wrap .i64 (((gd r1.l 0).s.length : Int) + ((gd r1.l 1).s.length : Int))) + ((gd r1.l 2).s.length : Int))) + 3)).toNat)) .unit))))]).bind fun o4 =>
 sel2 o4.1 (((z1A.F [(gd o4.2 0)]).bind fun r5 =>
 if (!r5.b) then
 ou 0 [(.bool true)]
 else
 (z3T.F [(gd o4.2 0)]).bind fun r6 =>
 ou 0 [(.bool (!(r6.s == a0.s)))]).bind fun o5 =>
 sel2 o5.1 (if (gd o5.2 0).b then
 ou 0 [(.pair (.pair (.str []) (.pair (.int 0) (.pair (.int 0) (.pair (.str []) .unit)))) (.pair (.bool false) .unit))]
 else
 ou 0 [(.pair (gd o4.2 0) (.pair (.bool true) .unit))]) fun _ => none) fun _ => none
 else none
 else none
 else none
 else none) := by kernel_rfl
theorem zGJ (a0 a1 : D) : z2P.F [a0, a1] = rn (
 ((z0X.F [a0, (.int 0), (.int 100)]).bind fun r2 =>
 if r2.b then
 (z0X.F [a1, (.int 1), (.int 1000)]).bind fun r3 =>
 ou 0 [r3]
 else
 ou 0 [(.bool false)]).bind fun o2 =>
 sel2 o2.1 (ou 0 [(gd o2.2 0)]) fun _ => none) := by kernel_rfl
theorem zEr (a0 : D) : z2w.F [a0] = rn (
 (z0c (fun l1 =>
 if (decide ((gd l1 0).i < (a0.l.length : Int))) then
 if (inb (gd l1 0).i a0.l.length) then
 ((z0X.F [((gd a0.l (gd l1 0).i.toNat).fld 0), (.int 1), (.int 4)]).bind fun r2 =>
 if (!r2.b) then
 ou 0 [(.bool true)]
 else
 (z1A.F [((gd a0.l (gd l1 0).i.toNat).fld 1)]).bind fun r3 =>
 if (!r3.b) then
 ou 0 [(.bool true)]
 else
 ou 0 [(.bool ((((gd a0.l (gd l1 0).i.toNat).fld 1).fld 1).i == 6))]).bind fun o2 =>
 sel2 o2.1 (if (gd o2.2 0).b then
 ou 1 []
 else
 ou 0 [(.int (IntKind.wrap .i64 ((gd l1 0).i + 1)))]) fun _ => none
 else none
 else
 ou 2 []) [(.int 0)]).bind fun o1 =>
 sel2 o1.1 (ou 0 [(.bool false)]) fun n2 =>
 sel2 n2 (ou 0 [(.bool (decide ((a0.l.length : Int) ≤ 12)))]) fun _ => none) := by kernel_rfl
theorem zEn (a0 : D) : z4P.F [a0] = rn (
 (z1E.F [(a0.fld 0)]).bind fun r1 =>
 if (catOk r1.s ([32] : List UInt8)) then
 (z1E.F [(a0.fld 1)]).bind fun r2 =>
 if (catOk (r1.s ++ ([32] : List UInt8)) r2.s) then
 (z0c (fun l3 =>
 if (decide ((gd l3 1).i < ((a0.fld 2).l.length : Int))) then
 if (inb (gd l3 1).i (a0.fld 2).l.length) then
 (z1E.F [((gd (a0.fld 2).l (gd l3 1).i.toNat).fld 0)]).bind fun r5 =>
 if (catOk ([10] : List UInt8) r5.s) then
 if (catOk (([10] : List UInt8) ++ r5.s) ([32] : List UInt8)) then
 (z3T.F [((gd (a0.fld 2).l (gd l3 1).i.toNat).fld 1)]).bind fun r6 =>
 if (catOk ((([10] : List UInt8) ++ r5.s) ++ ([32] : List UInt8)) r6.s) then
 if (catOk (gd l3 0).s (((([10] : List UInt8) ++ r5.s) ++ ([32] : List UInt8)) ++ r6.s)) then
 ou 0 [(.str ((gd l3 0).s ++ (((([10] : List UInt8) ++ r5.s) ++ ([32] : List UInt8)) ++ r6.s))), (.int (IntKind.wrap .i64 ((gd l3 1).i + 1)))]
 else none
 else none
 else none
 else none
 else none
 else
 ou 1 [(gd l3 0)]) [(.str ((r1.s ++ ([32] : List UInt8)) ++ r2.s)), (.int 0)]).bind fun o3 =>
 sel2 o3.1 (ou 0 [(gd o3.2 0)]) fun _ => none
 else none
 else none) := by kernel_rfl
theorem zCR (a0 : D) : z2M.F [a0] = rn (
 ((z2P.F [(a0.fld 0), (a0.fld 1)]).bind fun r1 =>
 if (!r1.b) then
 ou 0 [(.bool true)]
 else
 (z2w.F [(a0.fld 2)]).bind fun r2 =>
 ou 0 [(.bool (!r2.b))]).bind fun o1 =>
 sel2 o1.1 (if (gd o1.2 0).b then
 ou 0 [(.pair (D.str []) (.pair (.bool false) .unit))]
 else
 (z4P.F [a0]).bind fun r2 =>
 ou 0 [(.pair r2 (.pair (.bool true) .unit))]) fun _ => none) := by kernel_rfl
theorem zCS (a0 : D) : z3g.F [a0] = rn (
 (z0z.F [a0, (.int 10)]).bind fun r1 =>
 if (inb 0 r1.l.length) then
 (z0z.F [(gd r1.l 0), (.int 32)]).bind fun r2 =>
 if ((r2.l.length : Int) != 2) then
 ou 0 [(.pair (.pair (.int 0) (.pair (.int 0) (.pair (D.lst []) .unit))) (.pair (.bool false) .unit))]
 else
 if (inb 0 r2.l.length) then
 (z0u.F [(gd r2.l 0)]).bind fun r3 =>
 if (inb 1 r2.l.length) then
 (z0u.F [(gd r2.l 1)]).bind fun r4 =>
 if (slOk 1 (r1.l.length : Int) (r1.l.length : Int)) then
 (z0c (fun l5 =>
 if (decide ((gd l5 1).i < (((r1.l.take (r1.l.length : Int).toNat).drop 1).length : Int))) then
 if (inb (gd l5 1).i ((r1.l.take (r1.l.length : Int).toNat).drop 1).length) then
 if (decide (((gd (D.lst ((r1.l.take (r1.l.length : Int).toNat).drop 1)).l (gd l5 1).i.toNat).s.length : Int) < 2)) then
 ou 1 [(.pair (.int 0) (.pair (.int 0) (.pair (D.lst []) .unit)))]
 else
 if (slOk 2 ((gd (D.lst ((r1.l.take (r1.l.length : Int).toNat).drop 1)).l (gd l5 1).i.toNat).s.length : Int) ((gd (D.lst ((r1.l.take (r1.l.length : Int).toNat).drop 1)).l (gd l5 1).i.toNat).s.length : Int)) then
 (z3I.F [(.str (((gd (D.lst ((r1.l.take (r1.l.length : Int).toNat).drop 1)).l (gd l5 1).i.toNat).s.take ((gd (D.lst ((r1.l.take (r1.l.length : Int).toNat).drop 1)).l (gd l5 1).i.toNat).s.length : Int).toNat).drop 2))]).bind fun r7 =>
 if (!(r7.fld 1).b) then
 ou 1 [(.pair (.int 0) (.pair (.int 0) (.pair (D.lst []) .unit)))]
 else
 if (slOk 0 1 ((gd (D.lst ((r1.l.take (r1.l.length : Int).toNat).drop 1)).l (gd l5 1).i.toNat).s.length : Int)) then
 (z0u.F [(.str (((gd (D.lst ((r1.l.take (r1.l.length : Int).toNat).drop 1)).l (gd l5 1).i.toNat).s.take 1).drop 0))]).bind fun r8 =>
 if (appOk 56 ((gd l5 0).fld 2).l ((.pair r8 (.pair (r7.fld 0) .unit)) :: ([] : List D))) then
 ou 0 [((gd l5 0).setFld 2 (D.lst (((gd l5 0).fld 2).l ++ ((.pair r8 (.pair (r7.fld 0) .unit)) :: ([] : List D))))), (.int (IntKind.wrap .i64 ((gd l5 1).i + 1)))]
 else none
 else none
 else none
 else none
 else
 ou 2 [(gd l5 0)]) [(.pair r3 (.pair r4 (.pair (D.lst []) .unit))), (.int 0)]).bind fun o5 =>
 sel2 o5.1 (ou 0 [(.pair (gd o5.2 0) (.pair (.bool false) .unit))]) fun n4 =>
 sel2 n4 ((z2M.F [(gd o5.2 0)]).bind fun r6 =>
 (if (!(r6.fld 1).b) then
 ou 0 [(.bool true)]
 else
 ou 0 [(.bool (!((r6.fld 0).s == a0.s)))]).bind fun o7 =>
 sel2 o7.1 (if (gd o7.2 0).b then
 ou 0 [(.pair (.pair (.int 0) (.pair (.int 0) (.pair (D.lst []) .unit))) (.pair (.bool false) .unit))]
 else
 ou 0 [(.pair (gd o5.2 0) (.pair (.bool true) .unit))]) fun _ => none) fun _ => none
 else none
 else none
 else none
 else none) := by kernel_rfl
theorem zDq (a0 : D) : z1I.F [a0] = rn (
 if (a0.s == ([] : List UInt8)) then
 ou 0 [(D.lst [])]
 else
 (z0r.F [a0, (D.str [46])]).bind fun r1 =>
 ou 0 [r1]) := by kernel_rfl
theorem zGI (a0 a1 a2 : D) : z0Y.F [a0, a1, a2] = rn (
 (if (decide (a0.i ≥ a1.i)) then
 ou 0 [(.bool (decide (a0.i ≤ a2.i)))]
 else
 ou 0 [(.bool false)]).bind fun o3 =>
 sel2 o3.1 (ou 0 [(gd o3.2 0)]) fun _ => none) := by kernel_rfl
theorem zEl (a0 : D) : z4O.F [a0] = rn (
 if (a0.s == ([42] : List UInt8)) then
 ou 0 [(.bool true)]
 else
 ((z0Y.F [(.int (a0.s.length : Int)), (.int 1), (.int 20)]).bind fun r1 =>
 if r1.b then
 (z3q.F [a0, (D.str [97, 98, 99, 100, 101, 102, 103, 104, 105, 106, 107, 108, 109, 110, 111, 112, 113, 114, 115, 116, 117, 118, 119, 120, 121, 122, 48, 49, 50, 51, 52, 53, 54, 55, 56, 57, 45, 95])]).bind fun r2 =>
 ou 0 [(.bool (r2.s == ([] : List UInt8)))]
 else
 ou 0 [(.bool false)]).bind fun o1 =>
 sel2 o1.1 (ou 0 [(gd o1.2 0)]) fun _ => none) := by kernel_rfl
theorem zBB (a0 : D) : z2V.F [a0] = rn (
 (z4O.F [a0]).bind fun r1 =>
 ou 0 [(.bool (!r1.b))]) := by kernel_rfl
theorem z2j (a0 a1 : D) : z0N.F [a0, a1] = rn (
 (z0c (fun l2 =>
 if (decide ((gd l2 0).i < (a0.l.length : Int))) then
 if (inb (gd l2 0).i a0.l.length) then
 (z2V.F [(gd a0.l (gd l2 0).i.toNat)]).bind fun r3 =>
 if r3.b then
 ou 1 [(gd l2 0)]
 else
 ou 0 [(.int (IntKind.wrap .i64 ((gd l2 0).i + 1)))]
 else none
 else
 ou 2 []) [(.int 0)]).bind fun o2 =>
 sel2 o2.1 (ou 0 [(gd o2.2 0)]) fun n2 =>
 sel2 n2 (ou 0 [(.int (-1))]) fun _ => none) := by kernel_rfl
theorem z2a (a0 a1 : D) : z0G.F [a0, a1] = rn (
 (z0N.F [a0, a1]).bind fun r2 =>
 ou 0 [(.bool (decide (r2.i ≥ 0)))]) := by kernel_rfl
theorem zDn (a0 : D) : z1X.F [a0] = rn (
 if (decide ((a0.s.length : Int) > 60)) then
 ou 0 [(.bool false)]
 else
 (z1I.F [a0]).bind fun r1 =>
 (if (decide ((r1.l.length : Int) ≤ 8)) then
 (z0G.F [r1, .unit]).bind fun r2 =>
 ou 0 [(.bool (!r2.b))]
 else
 ou 0 [(.bool false)]).bind fun o2 =>
 sel2 o2.1 (ou 0 [(gd o2.2 0)]) fun _ => none) := by kernel_rfl
theorem zDr (a0 a1 : D) : z1Z.F [a0, a1] = rn (
 (z10.F [a0]).bind fun r2 =>
 (if (!(r2.fld 1).b) then
 (z0Y.F [(r2.fld 0), (.int 0), a1]).bind fun r3 =>
 if r3.b then
 (z0n.F [(r2.fld 0)]).bind fun r4 =>
 ou 0 [(r2.fld 0), (.bool (r4.s == a0.s))]
 else
 ou 0 [(r2.fld 0), (.bool false)]
 else
 ou 0 [(r2.fld 0), (.bool false)]).bind fun o3 =>
 sel2 o3.1 (ou 0 [(.pair (gd o3.2 0) (.pair (gd o3.2 1) .unit))]) fun _ => none) := by kernel_rfl
theorem zFK (a0 a1 : D) : z3E.F [a0, a1] = rn (
 (z0c (fun l2 =>
 if (decide ((gd l2 1).i ≥ 0)) then
 if (decide (0 ≤ (IntKind.wrap .i64 (8 * (gd l2 1).i)))) then
 if (appOk 1 (gd l2 0).l ((.int (IntKind.wrap .u8 (a0.i.fdiv (2 ^ min (IntKind.wrap .i64 (8 * (gd l2 1).i)).toNat (IntKind.bits .i64))))) :: ([] : List D))) then
 ou 0 [(D.lst ((gd l2 0).l ++ ((.int (IntKind.wrap .u8 (a0.i.fdiv (2 ^ min (IntKind.wrap .i64 (8 * (gd l2 1).i)).toNat (IntKind.bits .i64))))) :: ([] : List D)))), (.int (IntKind.wrap .i64 ((gd l2 1).i - 1)))]
 else none
 else none
 else
 ou 1 [(gd l2 0)]) [(D.lst []), (.int (IntKind.wrap .i64 (a1.i - 1)))]).bind fun o2 =>
 sel2 o2.1 (ou 0 [(.str (z0i (gd o2.2 0).l))]) fun _ => none) := by kernel_rfl
theorem zDp (a0 : D) : z3F.F [a0] = rn (
 (if (!(a0.s == ([] : List UInt8))) then
 (z1X.F [a0]).bind fun r1 =>
 if r1.b then
 (z1F.F [a0, (D.str [42])]).bind fun r2 =>
 ou 0 [(.bool (!r2.b))]
 else
 ou 0 [(.bool false)]
 else
 ou 0 [(.bool false)]).bind fun o1 =>
 sel2 o1.1 (ou 0 [(gd o1.2 0)]) fun _ => none) := by kernel_rfl
theorem zBF (a0 : D) : z2W.F [a0] = rn (
 (z1I.F [a0]).bind fun r1 =>
 (z0c (fun l2 =>
 if (decide ((gd l2 1).i < (r1.l.length : Int))) then
 if (inb (gd l2 1).i r1.l.length) then
 if (catOk (z0i ((.int (IntKind.wrap .u8 ((gd r1.l (gd l2 1).i.toNat).s.length : Int))) :: ([] : List D))) (gd r1.l (gd l2 1).i.toNat).s) then
 if (catOk (gd l2 0).s ((z0i ((.int (IntKind.wrap .u8 ((gd r1.l (gd l2 1).i.toNat).s.length : Int))) :: ([] : List D))) ++ (gd r1.l (gd l2 1).i.toNat).s)) then
 ou 0 [(.str ((gd l2 0).s ++ ((z0i ((.int (IntKind.wrap .u8 ((gd r1.l (gd l2 1).i.toNat).s.length : Int))) :: ([] : List D))) ++ (gd r1.l (gd l2 1).i.toNat).s))), (.int (IntKind.wrap .i64 ((gd l2 1).i + 1)))]
 else none
 else none
 else none
 else
 ou 1 [(gd l2 0)]) [(D.str []), (.int 0)]).bind fun o2 =>
 sel2 o2.1 (ou 0 [(gd o2.2 0)]) fun _ => none) := by kernel_rfl
theorem zAD (a0 : D) : z2I.F [a0] = rn (
 (if (decide (a0.i < 32)) then
 ou 0 [(.bool true)]
 else
 ou 0 [(.bool (decide (a0.i > 126)))]).bind fun o1 =>
 sel2 o1.1 (ou 0 [(gd o1.2 0)]) fun _ => none) := by kernel_rfl
theorem z33 (a0 a1 : D) : z0U.F [a0, a1] = rn (
 (z0c (fun l2 =>
 if (decide ((gd l2 0).i < (a0.l.length : Int))) then
 if (inb (gd l2 0).i a0.l.length) then
 (z2I.F [(gd a0.l (gd l2 0).i.toNat)]).bind fun r3 =>
 if r3.b then
 ou 1 [(gd l2 0)]
 else
 ou 0 [(.int (IntKind.wrap .i64 ((gd l2 0).i + 1)))]
 else none
 else
 ou 2 []) [(.int 0)]).bind fun o2 =>
 sel2 o2.1 (ou 0 [(gd o2.2 0)]) fun n2 =>
 sel2 n2 (ou 0 [(.int (-1))]) fun _ => none) := by kernel_rfl
theorem z2i (a0 a1 : D) : z0M.F [a0, a1] = rn (
 (z0U.F [a0, a1]).bind fun r2 =>
 ou 0 [(.bool (decide (r2.i ≥ 0)))]) := by kernel_rfl
theorem z7d (a0 a1 : D) : z1f.F [a0, a1] = rn (
 if (a0.i == 1) then
 (z0r.F [a1, (D.str [46])]).bind fun r2 =>
 (z0c (fun l3 =>
 if (decide ((gd l3 1).i < (r2.l.length : Int))) then
 if (inb (gd l3 1).i r2.l.length) then
 (z1Z.F [(gd r2.l (gd l3 1).i.toNat), (.int 255)]).bind fun r5 =>
 (if (!(r5.fld 1).b) then
 ou 0 [(.bool true)]
 else
 ou 0 [(.bool ((r2.l.length : Int) != 4))]).bind fun o6 =>
 sel2 o6.1 (if (gd o6.2 0).b then
 ou 1 []
 else
 (z3E.F [(r5.fld 0), (.int 1)]).bind fun r7 =>
 if (catOk (gd l3 0).s r7.s) then
 ou 0 [(.str ((gd l3 0).s ++ r7.s)), (.int (IntKind.wrap .i64 ((gd l3 1).i + 1)))]
 else none) fun _ => none
 else none
 else
 ou 2 [(gd l3 0)]) [(D.str []), (.int 0)]).bind fun o3 =>
 sel2 o3.1 (ou 0 [(.pair (D.str []) (.pair (.bool false) .unit))]) fun n4 =>
 sel2 n4 (ou 0 [(.pair (gd o3.2 0) (.pair (.bool true) .unit))]) fun _ => none
 else
 (if (a0.i == 2) then
 ou 0 [(.bool (a0.i == 2))]
 else
 ou 0 [(.bool (a0.i == 5))]).bind fun o2 =>
 sel2 o2.1 (if (gd o2.2 0).b then
 (z3F.F [a1]).bind fun r3 =>
 if (!r3.b) then
 ou 0 [(.pair (D.str []) (.pair (.bool false) .unit))]
 else
 (z2W.F [a1]).bind fun r4 =>
 if (catOk r4.s ([0] : List UInt8)) then
 ou 0 [(.pair (.str (r4.s ++ ([0] : List UInt8))) (.pair (.bool true) .unit))]
 else none
 else
 if (a0.i == 6) then
 (z1Z.F [a1, (.int 4294967295)]).bind fun r3 =>
 if (!(r3.fld 1).b) then
 ou 0 [(.pair (D.str []) (.pair (.bool false) .unit))]
 else
 (z3E.F [(r3.fld 0), (.int 4)]).bind fun r4 =>
 ou 0 [(.pair r4 (.pair (.bool true) .unit))]
 else
 if (a0.i == 15) then
 (z2Q.F [a1, (D.str [32])]).bind fun r3 =>
 (z1Z.F [(r3.fld 0), (.int 65535)]).bind fun r4 =>
 (if (!(r4.fld 1).b) then
 ou 0 [(.bool true)]
 else
 (z3F.F [(r3.fld 1)]).bind fun r5 =>
 ou 0 [(.bool (!r5.b))]).bind fun o5 =>
 sel2 o5.1 (if (gd o5.2 0).b then
 ou 0 [(.pair (D.str []) (.pair (.bool false) .unit))]
 else
 (z3E.F [(r4.fld 0), (.int 2)]).bind fun r6 =>
 (z2W.F [(r3.fld 1)]).bind fun r7 =>
 if (catOk r6.s r7.s) then
 if (catOk (r6.s ++ r7.s) ([0] : List UInt8)) then
 ou 0 [(.pair (.str ((r6.s ++ r7.s) ++ ([0] : List UInt8))) (.pair (.bool true) .unit))]
 else none
 else none) fun _ => none
 else
 if (a0.i == 16) then
 (if (decide ((a1.s.length : Int) > 30)) then
 ou 0 [(.bool true)]
 else
 (z0M.F [(D.lst (a1.s.map fun c => D.int c.toNat)), .unit]).bind fun r3 =>
 ou 0 [r3]).bind fun o3 =>
 sel2 o3.1 (if (gd o3.2 0).b then
 ou 0 [(.pair (D.str []) (.pair (.bool false) .unit))]
 else
 (z3E.F [(.int (a1.s.length : Int)), (.int 1)]).bind fun r4 =>
 if (catOk r4.s a1.s) then
 ou 0 [(.pair (.str (r4.s ++ a1.s)) (.pair (.bool true) .unit))]
 else none) fun _ => none
 else
 ou 0 [(.pair (D.str []) (.pair (.bool false) .unit))]) fun _ => none) := by kernel_rfl
theorem zBC (a0 : D) : z19.F [a0] = rn (
 ((z1X.F [(a0.fld 0)]).bind fun r1 =>
 if (!r1.b) then
 ou 0 [(.bool true)]
 else
 (z0Y.F [(a0.fld 2), (.int 0), (.int 100000)]).bind fun r2 =>
 if (!r2.b) then
 ou 0 [(.bool true)]
 else
 ou 0 [(.bool (decide (((a0.fld 3).s.length : Int) > 100)))]).bind fun o1 =>
 sel2 o1.1 (if (gd o1.2 0).b then
 ou 0 [(.bool false)]
 else
 (z1f.F [(a0.fld 1), (a0.fld 3)]).bind fun r2 =>
 ou 0 [(r2.fld 1)]) fun _ => none) := by kernel_rfl
theorem zIT (a0 : D) : z6E.F [a0] = rn (
 if (a0.s == ([] : List UInt8)) then
 ou 0 [(D.str [46])]
 else
 ou 0 [a0]) := by kernel_rfl
theorem zBG (a0 : D) : z1y.F [a0] = rn (
 (z6E.F [(a0.fld 0)]).bind fun r1 =>
 if (catOk r1.s ([32] : List UInt8)) then
 (z0n.F [(a0.fld 2)]).bind fun r2 =>
 if (catOk (r1.s ++ ([32] : List UInt8)) r2.s) then
 if (catOk ((r1.s ++ ([32] : List UInt8)) ++ r2.s) ([32] : List UInt8)) then
 (z0n.F [(a0.fld 1)]).bind fun r3 =>
 if (catOk (((r1.s ++ ([32] : List UInt8)) ++ r2.s) ++ ([32] : List UInt8)) r3.s) then
 if (catOk ((((r1.s ++ ([32] : List UInt8)) ++ r2.s) ++ ([32] : List UInt8)) ++ r3.s) ([32] : List UInt8)) then
 if (catOk (((((r1.s ++ ([32] : List UInt8)) ++ r2.s) ++ ([32] : List UInt8)) ++ r3.s) ++ ([32] : List UInt8)) (a0.fld 3).s) then
 ou 0 [(.str ((((((r1.s ++ ([32] : List UInt8)) ++ r2.s) ++ ([32] : List UInt8)) ++ r3.s) ++ ([32] : List UInt8)) ++ (a0.fld 3).s))]
 else none
 else none
 else none
 else none
 else none
 else none) := by kernel_rfl
theorem zBD (a0 : D) : z3D.F [a0] = rn (
 (z2o.F [a0, (D.str [32]), (.int 4)]).bind fun r1 =>
 (if (decide ((a0.s.length : Int) > 300)) then
 ou 0 [(.bool true)]
 else
 ou 0 [(.bool ((r1.l.length : Int) != 4))]).bind fun o2 =>
 sel2 o2.1 (if (gd o2.2 0).b then
 ou 0 [(.pair (.pair (.str []) (.pair (.int 0) (.pair (.int 0) (.pair (.str []) .unit)))) (.pair (.bool false) .unit))]
 else
 if (inb 0 r1.l.length) then
 if (inb 3 r1.l.length) then
 (if ((gd r1.l 0).s == ([46] : List UInt8)) then
 ou 0 [(.pair (D.str []) (.pair (.int 0) (.pair (.int 0) (.pair (gd r1.l 3) .unit))))]
 else
 ou 0 [(.pair (gd r1.l 0) (.pair (.int 0) (.pair (.int 0) (.pair (gd r1.l 3) .unit))))]).bind fun o3 =>
 sel2 o3.1 (if (inb 1 r1.l.length) then
 (z10.F [(gd r1.l 1)]).bind fun r4 =>
 if (inb 2 r1.l.length) then
 (z10.F [(gd r1.l 2)]).bind fun r5 =>
 ((z19.F [(((gd o3.2 0).setFld 2 (r4.fld 0)).setFld 1 (r5.fld 0))]).bind fun r6 =>
 if (!r6.b) then
 ou 0 [(.bool true)]
 else
 (z1y.F [(((gd o3.2 0).setFld 2 (r4.fld 0)).setFld 1 (r5.fld 0))]).bind fun r7 =>
 ou 0 [(.bool (!(r7.s == a0.s)))]).bind fun o6 =>
 sel2 o6.1 (if (gd o6.2 0).b then
 ou 0 [(.pair (.pair (.str []) (.pair (.int 0) (.pair (.int 0) (.pair (.str []) .unit)))) (.pair (.bool false) .unit))]
 else
 ou 0 [(.pair (((gd o3.2 0).setFld 2 (r4.fld 0)).setFld 1 (r5.fld 0)) (.pair (.bool true) .unit))]) fun _ => none
 else none
 else none) fun _ => none
 else none
 else none) fun _ => none) := by kernel_rfl
theorem zDo (a0 a1 : D) : z1Y.F [a0, a1] = rn (
 ((z0Y.F [a0, (.int 0), (.int 100)]).bind fun r2 =>
 if r2.b then
 (z0Y.F [a1, (.int 1), (.int 1000)]).bind fun r3 =>
 ou 0 [r3]
 else
 ou 0 [(.bool false)]).bind fun o2 =>
 sel2 o2.1 (ou 0 [(gd o2.2 0)]) fun _ => none) := by kernel_rfl
theorem z9T (a0 : D) : z1x.F [a0] = rn (
 ((z0Y.F [(a0.fld 0), (.int 1), (.int 4)]).bind fun r1 =>
 if (!r1.b) then
 ou 0 [(.bool true)]
 else
 (z19.F [(a0.fld 1)]).bind fun r2 =>
 if (!r2.b) then
 ou 0 [(.bool true)]
 else
 ou 0 [(.bool (((a0.fld 1).fld 1).i == 6))]).bind fun o1 =>
 sel2 o1.1 (ou 0 [(gd o1.2 0)]) fun _ => none) := by kernel_rfl
theorem z1m (a0 a1 : D) : z0B.F [a0, a1] = rn (
 (z0c (fun l2 =>
 if (decide ((gd l2 0).i < (a0.l.length : Int))) then
 if (inb (gd l2 0).i a0.l.length) then
 (z1x.F [(gd a0.l (gd l2 0).i.toNat)]).bind fun r3 =>
 if r3.b then
 ou 1 [(gd l2 0)]
 else
 ou 0 [(.int (IntKind.wrap .i64 ((gd l2 0).i + 1)))]
 else none
 else
 ou 2 []) [(.int 0)]).bind fun o2 =>
 sel2 o2.1 (ou 0 [(gd o2.2 0)]) fun n2 =>
 sel2 n2 (ou 0 [(.int (-1))]) fun _ => none) := by kernel_rfl
theorem z1V (a0 a1 : D) : z09.F [a0, a1] = rn (
 (z0B.F [a0, a1]).bind fun r2 =>
 ou 0 [(.bool (decide (r2.i ≥ 0)))]) := by kernel_rfl
theorem zBE (a0 : D) : z1w.F [a0] = rn (
 (if (decide ((a0.l.length : Int) ≤ 12)) then
 (z09.F [a0, .unit]).bind fun r1 =>
 ou 0 [(.bool (!r1.b))]
 else
 ou 0 [(.bool false)]).bind fun o1 =>
 sel2 o1.1 (ou 0 [(gd o1.2 0)]) fun _ => none) := by kernel_rfl
theorem zCN (a0 : D) : z3c.F [a0] = rn (
 (z0n.F [(a0.fld 0)]).bind fun r1 =>
 if (catOk r1.s ([32] : List UInt8)) then
 (z0n.F [(a0.fld 1)]).bind fun r2 =>
 if (catOk (r1.s ++ ([32] : List UInt8)) r2.s) then
 (z0c (fun l3 =>
 if (decide ((gd l3 1).i < ((a0.fld 2).l.length : Int))) then
 if (inb (gd l3 1).i (a0.fld 2).l.length) then
 (z0n.F [((gd (a0.fld 2).l (gd l3 1).i.toNat).fld 0)]).bind fun r5 =>
 if (catOk ([10] : List UInt8) r5.s) then
 if (catOk (([10] : List UInt8) ++ r5.s) ([32] : List UInt8)) then
 (z1y.F [((gd (a0.fld 2).l (gd l3 1).i.toNat).fld 1)]).bind fun r6 =>
 if (catOk ((([10] : List UInt8) ++ r5.s) ++ ([32] : List UInt8)) r6.s) then
 if (catOk (gd l3 0).s (((([10] : List UInt8) ++ r5.s) ++ ([32] : List UInt8)) ++ r6.s)) then
 ou 0 [(.str ((gd l3 0).s ++ (((([10] : List UInt8) ++ r5.s) ++ ([32] : List UInt8)) ++ r6.s))), (.int (IntKind.wrap .i64 ((gd l3 1).i + 1)))]
 else none
 else none
 else none
 else none
 else none
 else
 ou 1 [(gd l3 0)]) [(.str ((r1.s ++ ([32] : List UInt8)) ++ r2.s)), (.int 0)]).bind fun o3 =>
 sel2 o3.1 (ou 0 [(gd o3.2 0)]) fun _ => none
 else none
 else none) := by kernel_rfl
theorem zCL (a0 : D) : z2L.F [a0] = rn (
 ((z1Y.F [(a0.fld 0), (a0.fld 1)]).bind fun r1 =>
 if (!r1.b) then
 ou 0 [(.bool true)]
 else
 (z1w.F [(a0.fld 2)]).bind fun r2 =>
 ou 0 [(.bool (!r2.b))]).bind fun o1 =>
 sel2 o1.1 (if (gd o1.2 0).b then
 ou 0 [(.pair (D.str []) (.pair (.bool false) .unit))]
 else
 (z3c.F [a0]).bind fun r2 =>
 ou 0 [(.pair r2 (.pair (.bool true) .unit))]) fun _ => none) := by kernel_rfl
theorem zCM (a0 : D) : z1g.F [a0] = rn (
 (z0r.F [a0, (D.str [10])]).bind fun r1 =>
 if (decide ((r1.l.length : Int) > 13)) then
 ou 0 [(.pair (.pair (.int 0) (.pair (.int 0) (.pair (D.lst []) .unit))) (.pair (.bool false) .unit))]
 else
 if (inb 0 r1.l.length) then
 (z2Q.F [(gd r1.l 0), (D.str [32])]).bind fun r2 =>
 (z10.F [(r2.fld 0)]).bind fun r3 =>
 (z10.F [(r2.fld 1)]).bind fun r4 =>
 if (slOk 1 (r1.l.length : Int) (r1.l.length : Int)) then
 (z0c (fun l5 =>
 if (decide ((gd l5 1).i < (((r1.l.take (r1.l.length : Int).toNat).drop 1).length : Int))) then
 if (inb (gd l5 1).i ((r1.l.take (r1.l.length : Int).toNat).drop 1).length) then
 (z2Q.F [(gd (D.lst ((r1.l.take (r1.l.length : Int).toNat).drop 1)).l (gd l5 1).i.toNat), (D.str [32])]).bind fun r7 =>
 (z3D.F [(r7.fld 1)]).bind fun r8 =>
 if (!(r8.fld 1).b) then
 ou 1 [(.pair (.int 0) (.pair (.int 0) (.pair (D.lst []) .unit)))]
 else
 (z10.F [(r7.fld 0)]).bind fun r9 =>
 if (appOk 56 ((gd l5 0).fld 2).l ((.pair (r9.fld 0) (.pair (r8.fld 0) .unit)) :: ([] : List D))) then
 ou 0 [((gd l5 0).setFld 2 (D.lst (((gd l5 0).fld 2).l ++ ((.pair (r9.fld 0) (.pair (r8.fld 0) .unit)) :: ([] : List D))))), (.int (IntKind.wrap .i64 ((gd l5 1).i + 1)))]
 else none
 else none
 else
 ou 2 [(gd l5 0)]) [(.pair (r3.fld 0) (.pair (r4.fld 0) (.pair (D.lst []) .unit))), (.int 0)]).bind fun o5 =>
 sel2 o5.1 (ou 0 [(.pair (gd o5.2 0) (.pair (.bool false) .unit))]) fun n4 =>
 sel2 n4 ((z2L.F [(gd o5.2 0)]).bind fun r6 =>
 (if (!(r6.fld 1).b) then
 ou 0 [(.bool true)]
 else
 ou 0 [(.bool (!((r6.fld 0).s == a0.s)))]).bind fun o7 =>
 sel2 o7.1 (if (gd o7.2 0).b then
 ou 0 [(.pair (.pair (.int 0) (.pair (.int 0) (.pair (D.lst []) .unit))) (.pair (.bool false) .unit))]
 else
 ou 0 [(.pair (gd o5.2 0) (.pair (.bool true) .unit))]) fun _ => none) fun _ => none
 else none
 else none) := by kernel_rfl
theorem zDt (a0 a1 : D) : z43.F [a0, a1] = rn (
 if (!((a0.fld 0).s == (a1.fld 0).s)) then
 ou 0 [(.bool false)]
 else
 if ((a0.fld 1).i != (a1.fld 1).i) then
 ou 0 [(.bool false)]
 else
 if ((a0.fld 2).i != (a1.fld 2).i) then
 ou 0 [(.bool false)]
 else
 if (!((a0.fld 3).s == (a1.fld 3).s)) then
 ou 0 [(.bool false)]
 else
 ou 0 [(.bool true)]) := by kernel_rfl
theorem zDs (a0 a1 : D) : z42.F [a0, a1] = rn (
 if ((a0.fld 0).i != (a1.fld 0).i) then
 ou 0 [(.bool false)]
 else
 (z43.F [(a0.fld 1), (a1.fld 1)]).bind fun r2 =>
 if (!r2.b) then
 ou 0 [(.bool false)]
 else
 ou 0 [(.bool true)]) := by kernel_rfl
theorem zCO (a0 a1 : D) : z3e.F [a0, a1] = rn (
 if ((a0.l.length : Int) != (a1.l.length : Int)) then
 ou 0 [(.bool false)]
 else
 (z0c (fun l2 =>
 if (decide ((gd l2 0).i < (a0.l.length : Int))) then
 if (inb (gd l2 0).i a0.l.length) then
 if (inb (gd l2 0).i a1.l.length) then
 (z42.F [(gd a0.l (gd l2 0).i.toNat), (gd a1.l (gd l2 0).i.toNat)]).bind fun r3 =>
 if (!r3.b) then
 ou 1 []
 else
 ou 0 [(.int (IntKind.wrap .i64 ((gd l2 0).i + 1)))]
 else none
 else none
 else
 ou 2 []) [(.int 0)]).bind fun o2 =>
 sel2 o2.1 (ou 0 [(.bool false)]) fun n4 =>
 sel2 n4 (ou 0 [(.bool true)]) fun _ => none) := by kernel_rfl
theorem zEm (a0 a1 : D) : z3m.F [a0, a1] = rn (
 if ((a0.fld 0).i != (a1.fld 0).i) then
 ou 0 [(.bool false)]
 else
 if ((a0.fld 1).i != (a1.fld 1).i) then
 ou 0 [(.bool false)]
 else
 (z3e.F [(a0.fld 2), (a1.fld 2)]).bind fun r2 =>
 if (!r2.b) then
 ou 0 [(.bool false)]
 else
 ou 0 [(.bool true)]) := by kernel_rfl
theorem zDu (a0 : D) : z1J.F [a0] = rn (
 if (decide (a0.i ≤ 0)) then
 ou 0 [(D.str [109, 48])]
 else
 (z0c (fun l1 =>
 if (decide ((gd l1 0).i > 0)) then
 if (10 != 0) then
 if (catOk (z0i ((.int (IntKind.wrap .u8 (IntKind.wrap .i64 (48 + ((gd l1 0).i.tmod 10))))) :: ([] : List D))) (gd l1 1).s) then
 ou 0 [(.int (IntKind.wrap .i64 ((gd l1 0).i.tdiv 10))), (.str ((z0i ((.int (IntKind.wrap .u8 (IntKind.wrap .i64 (48 + ((gd l1 0).i.tmod 10))))) :: ([] : List D))) ++ (gd l1 1).s))]
 else none
 else none
 else
 ou 1 [(gd l1 1)]) [a0, (D.str [])]).bind fun o1 =>
 sel2 o1.1 (if (catOk ([109] : List UInt8) (gd o1.2 0).s) then
 ou 0 [(.str (([109] : List UInt8) ++ (gd o1.2 0).s))]
 else none) fun _ => none) := by kernel_rfl
theorem zAF (a0 a1 : D) : z2r.F [a0, a1] = rn (
 (z0c (fun l2 =>
 if (decide ((gd l2 2).i < ((gd l2 0).l.length : Int))) then
 if (inb (gd l2 2).i (gd l2 0).l.length) then
 (z1J.F [(.int (IntKind.wrap .i64 ((gd l2 1).i + 1)))]).bind fun r5 =>
 (z1J.F [(.int (IntKind.wrap .i64 ((IntKind.wrap .i64 ((IntKind.wrap .i64 ((IntKind.wrap .i64 ((gd l2 1).i + 1)) + 1)) + 1)) + 1)))]).bind fun r6 =>
 ou 0 [(D.lst (upd2 (upd2 (upd2 (upd2 (upd (gd l2 0).l (gd l2 2).i.toNat 0 (gd l2 1)) (gd l2 2).i.toNat 1 0 r5) (gd l2 2).i.toNat 1 1 (.int (IntKind.wrap .i64 ((IntKind.wrap .i64 ((gd l2 1).i + 1)) + 1)))) (gd l2 2).i.toNat 1 2 (.int (IntKind.wrap .i64 ((IntKind.wrap .i64 ((IntKind.wrap .i64 ((gd l2 1).i + 1)) + 1)) + 1)))) (gd l2 2).i.toNat 1 3 r6)), (.int (IntKind.wrap .i64 ((IntKind.wrap .i64 ((IntKind.wrap .i64 ((IntKind.wrap .i64 ((IntKind.wrap .i64 ((gd l2 1).i + 1)) + 1)) + 1)) + 1)) + 1))), (.int (IntKind.wrap .i64 ((gd l2 2).i + 1)))]
 else none
 else
 ou 1 [(gd l2 0), (gd l2 1)]) [a0, a1, (.int 0)]).bind fun o2 =>
 sel2 o2.1 (ou 0 [(.pair (gd o2.2 1) (.pair (gd o2.2 0) .unit))]) fun _ => none) := by kernel_rfl
theorem zCQ (a0 a1 : D) : z3f.F [a0, a1] = rn (
 (z2r.F [(a0.fld 2), a1]).bind fun r2 =>
 ou 0 [(.pair (r2.fld 0) (.pair (D.mix (.pair (.int .i64) (.pair (.int .i64) (.pair (.lst true (.pair (.int .i64) (.pair (.pair .str (.pair (.int .i64) (.pair (.int .i64) (.pair .str .unit)))) .unit))) .unit))) a0 (a0.setFld 2 (r2.fld 1))) .unit))]) := by kernel_rfl
theorem zAE (a0 a1 : D) : z2q.F [a0, a1] = rn (
 (z0c (fun l2 =>
 if (decide ((gd l2 1).i < (a0.l.length : Int))) then
 if (inb (gd l2 1).i a0.l.length) then
 if (((gd a0.l (gd l2 1).i.toNat).fld 0).i != (gd l2 0).i) then
 ou 1 [(.int (-1))]
 else
 (z1J.F [(.int (IntKind.wrap .i64 ((gd l2 0).i + 1)))]).bind fun r4 =>
 if (!((((gd a0.l (gd l2 1).i.toNat).fld 1).fld 0).s == r4.s)) then
 ou 1 [(.int (-1))]
 else
 if ((((gd a0.l (gd l2 1).i.toNat).fld 1).fld 1).i != (IntKind.wrap .i64 ((IntKind.wrap .i64 ((gd l2 0).i + 1)) + 1))) then
 ou 1 [(.int (-1))]
 else
 if ((((gd a0.l (gd l2 1).i.toNat).fld 1).fld 2).i != (IntKind.wrap .i64 ((IntKind.wrap .i64 ((IntKind.wrap .i64 ((gd l2 0).i + 1)) + 1)) + 1))) then
 ou 1 [(.int (-1))]
 else
 (z1J.F [(.int (IntKind.wrap .i64 ((IntKind.wrap .i64 ((IntKind.wrap .i64 ((IntKind.wrap .i64 ((gd l2 0).i + 1)) + 1)) + 1)) + 1)))]).bind fun r5 =>
 if (!((((gd a0.l (gd l2 1).i.toNat).fld 1).fld 3).s == r5.s)) then
 ou 1 [(.int (-1))]
 else
 ou 0 [(.int (IntKind.wrap .i64 ((IntKind.wrap .i64 ((IntKind.wrap .i64 ((IntKind.wrap .i64 ((IntKind.wrap .i64 ((gd l2 0).i + 1)) + 1)) + 1)) + 1)) + 1))), (.int (IntKind.wrap .i64 ((gd l2 1).i + 1)))]
 else none
 else
 ou 2 [(gd l2 0)]) [a1, (.int 0)]).bind fun o2 =>
 sel2 o2.1 (ou 0 [(gd o2.2 0)]) fun n2 =>
 sel2 n2 (ou 0 [(gd o2.2 0)]) fun _ => none) := by kernel_rfl
theorem zCP (a0 a1 : D) : z2l.F [a0, a1] = rn (
 (z2q.F [(a0.fld 2), a1]).bind fun r2 =>
 if (decide (r2.i < 0)) then
 ou 0 [(.int (-1))]
 else
 ou 0 [r2]) := by kernel_rfl
theorem z7U (a0 : D) : z3P.F [a0] = rn (
 if (decide ((a0.s.length : Int) > 1048576)) then
 ou 0 [(.bool true)]
 else
 (z3g.F [a0]).bind fun r1 =>
 (z1g.F [a0]).bind fun r2 =>
 ((z3m.F [(r2.fld 0), (r1.fld 0)]).bind fun r3 =>
 if (!r3.b) then
 ou 0 [(.bool true)]
 else
 ou 0 [(.bool (!((r2.fld 1).b == (r1.fld 1).b)))]).bind fun o3 =>
 sel2 o3.1 (if (gd o3.2 0).b then
 ou 0 [(.bool false)]
 else
 (z3f.F [(r2.fld 0), (.int 1)]).bind fun r4 =>
 (z2l.F [(.pair ((r2.fld 0).fld 0) (.pair ((r2.fld 0).fld 1) (.pair ((r4.fld 1).fld 2) .unit))), (.int 1)]).bind fun r5 =>
 if (decide (r5.i < 0)) then
 ou 0 [(.bool false)]
 else
 if (r5.i != (r4.fld 0).i) then
 ou 0 [(.bool false)]
 else
 (z1g.F [a0]).bind fun r6 =>
 ((z3m.F [(r6.fld 0), (r1.fld 0)]).bind fun r7 =>
 if (!r7.b) then
 ou 0 [(.bool true)]
 else
 ou 0 [(.bool (!((r6.fld 1).b == (r1.fld 1).b)))]).bind fun o7 =>
 sel2 o7.1 (if (gd o7.2 0).b then
 ou 0 [(.bool false)]
 else
 (z2l.F [(.pair ((r2.fld 0).fld 0) (.pair ((r2.fld 0).fld 1) (.pair ((r4.fld 1).fld 2) .unit))), (.int 1)]).bind fun r8 =>
 if (decide (r8.i < 0)) then
 ou 0 [(.bool false)]
 else
 if (r8.i != (r4.fld 0).i) then
 ou 0 [(.bool false)]
 else
 ou 0 [(.bool true)]) fun _ => none) fun _ => none) := by kernel_rfl
theorem q_spec_l1Cur_next (a0 : D) : z3J.F [a0] = rn (
 (if (decide ((a0.fld 1).i < ((a0.fld 0).l.length : Int))) then
 if (inb (a0.fld 1).i (a0.fld 0).l.length) then
 ou 0 [(.int (IntKind.wrap .i64 (gd (a0.fld 0).l (a0.fld 1).i.toNat).i))]
 else none
 else
 ou 0 [(.int 0)]).bind fun o1 =>
 sel2 o1.1 (if (decide ((IntKind.wrap .i64 ((a0.fld 1).i + 1)) ≤ ((a0.fld 0).l.length : Int))) then
 ou 0 [(.pair (gd o1.2 0) (.pair ((a0.setFld 1 (.int (IntKind.wrap .i64 ((a0.fld 1).i + 1)))).setFld 2 (.int (IntKind.wrap .u64 ((IntKind.wrap .u64 ((IntKind.wrap .u64 ((a0.fld 2).i * 6364136223846793005)) + (IntKind.wrap .u64 (gd o1.2 0).i))) + 1442695040888963407)))) .unit))]
 else
 if (decide (0 ≤ 40)) then
 ou 0 [(.pair (.int (IntKind.wrap .i64 (D.ofBin (zEu .and .u64 ((IntKind.wrap .u64 ((IntKind.wrap .u64 ((IntKind.wrap .u64 ((a0.fld 2).i * 6364136223846793005)) + (IntKind.wrap .u64 (gd o1.2 0).i))) + 1442695040888963407)).fdiv (2 ^ min 40 (IntKind.bits .u64))) 255)).i)) (.pair ((a0.setFld 1 (.int (IntKind.wrap .i64 ((a0.fld 1).i + 1)))).setFld 2 (.int (IntKind.wrap .u64 ((IntKind.wrap .u64 ((IntKind.wrap .u64 ((a0.fld 2).i * 6364136223846793005)) + (IntKind.wrap .u64 (gd o1.2 0).i))) + 1442695040888963407)))) .unit))]
 else none) fun _ => none) := by kernel_rfl
theorem q_spec_l1Cur_pick (a0 a1 : D) : z03.F [a0, a1] = rn (
 if (decide (a1.i ≤ 1)) then
 ou 0 [(.pair (.int 0) (.pair a0 .unit))]
 else
 (z3J.F [a0]).bind fun r2 =>
 (if (decide (a1.i > 200)) then
 (z3J.F [(r2.fld 1)]).bind fun r3 =>
 ou 0 [(r3.fld 1), (.int (IntKind.wrap .i64 ((IntKind.wrap .i64 ((r2.fld 0).i * 256)) + (r3.fld 0).i)))]
 else
 ou 0 [(r2.fld 1), (r2.fld 0)]).bind fun o3 =>
 sel2 o3.1 (if (a1.i != 0) then
 ou 0 [(.pair (.int ((gd o3.2 1).i.tmod a1.i)) (.pair (gd o3.2 0) .unit))]
 else none) fun _ => none) := by kernel_rfl
theorem q_spec_l1Cur_one (a0 a1 : D) : z0e.F [a0, a1] = rn (
 (z03.F [a0, a1]).bind fun r2 =>
 ou 0 [(.pair (.bool ((r2.fld 0).i == 0)) (.pair (r2.fld 1) .unit))]) := by kernel_rfl
theorem q_spec_l1Cur_among (a0 a1 : D) : z0b.F [a0, a1] = rn (
 (z03.F [a0, (.int (a1.l.length : Int))]).bind fun r2 =>
 if (inb (r2.fld 0).i a1.l.length) then
 ou 0 [(.pair (gd a1.l (r2.fld 0).i.toNat) (.pair (r2.fld 1) .unit))]
 else none) := by kernel_rfl
theorem q_spec_l1Cur_of (a0 a1 : D) : z0j.F [a0, a1] = rn (
 (z03.F [a0, (.int (a1.l.length : Int))]).bind fun r2 =>
 if (inb (r2.fld 0).i a1.l.length) then
 ou 0 [(.pair (gd a1.l (r2.fld 0).i.toNat) (.pair (r2.fld 1) .unit))]
 else none) := by kernel_rfl
theorem q_spec_l1Cur_name (a0 : D) : z2Y.F [a0] = rn (
 (z03.F [a0, (.int 40)]).bind fun r1 =>
 if ((r1.fld 0).i == 0) then
 (z0j.F [(r1.fld 1), (D.lst ((D.str []) :: ((D.str [46]) :: ((D.str [97, 46, 46, 98]) :: ((D.str [65]) :: ((D.str [97, 46]) :: ((D.str [97, 42]) :: ((D.str [97, 46, 98, 46, 99, 46, 100, 46, 101, 46, 102, 46, 103, 46, 104]) :: ((D.str [97, 46, 98, 46, 99, 46, 100, 46, 101, 46, 102, 46, 103, 46, 104, 46, 105]) :: ((D.str [97, 98, 99, 100, 101, 102, 103, 104, 105, 106, 107, 108, 109, 110, 111, 112, 113, 114, 115, 116]) :: ((D.str [97, 98, 99, 100, 101, 102, 103, 104, 105, 106, 107, 108, 109, 110, 111, 112, 113, 114, 115, 116, 117]) :: ([] : List D))))))))))))]).bind fun r2 =>
 ou 0 [(.pair (r2.fld 0) (.pair (r2.fld 1) .unit))]
 else
 if ((r1.fld 0).i == 1) then
 (z0j.F [(r1.fld 1), (D.lst ((D.str []) :: ((D.str [99, 111, 109]) :: ([] : List D))))]).bind fun r2 =>
 ou 0 [(.pair (r2.fld 0) (.pair (r2.fld 1) .unit))]
 else
 (z0j.F [(r1.fld 1), (D.lst ((D.str [101, 120]) :: ((D.str [99, 111, 109]) :: ((D.str [101, 120, 46, 99, 111, 109]) :: ((D.str [101, 120, 46, 99, 111, 109]) :: ((D.str [101, 120, 46, 99, 111, 109]) :: ([] : List D)))))))]).bind fun r2 =>
 (z03.F [(r2.fld 1), (.int 3)]).bind fun r3 =>
 (z0c (fun l4 =>
 if (decide ((gd l4 2).i > 0)) then
 (z0j.F [(gd l4 0), (D.lst ((D.str [97]) :: ((D.str [98]) :: ((D.str [119, 119, 119]) :: ((D.str [115, 117, 98]) :: ((D.str [42]) :: ((D.str [120, 49]) :: ((D.str [110, 115]) :: ([] : List D)))))))))]).bind fun r7 =>
 if (catOk (r7.fld 0).s ([46] : List UInt8)) then
 if (catOk ((r7.fld 0).s ++ ([46] : List UInt8)) (gd l4 1).s) then
 ou 0 [(r7.fld 1), (.str (((r7.fld 0).s ++ ([46] : List UInt8)) ++ (gd l4 1).s)), (.int (IntKind.wrap .i64 ((gd l4 2).i - 1)))]
 else none
 else none
 else
 ou 1 [(gd l4 0), (gd l4 1)]) [(r3.fld 1), (r2.fld 0), (r3.fld 0)]).bind fun o4 =>
 sel2 o4.1 (ou 0 [(.pair (gd o4.2 1) (.pair (gd o4.2 0) .unit))]) fun _ => none) := by kernel_rfl
theorem q_spec_l1Cur_target (a0 : D) : z2b.F [a0] = rn (
 (z0j.F [a0, (D.lst ((D.str [97, 46, 101, 120, 46, 99, 111, 109]) :: ((D.str [98, 46, 101, 120, 46, 99, 111, 109]) :: ((D.str [110, 115, 46, 101, 120, 46, 99, 111, 109]) :: ((D.str [119, 119, 119, 46, 99, 111, 109]) :: ((D.str [120, 49, 46, 115, 117, 98, 46, 101, 120, 46, 99, 111, 109]) :: ([] : List D)))))))]).bind fun r1 =>
 ou 0 [(.pair (r1.fld 0) (.pair (r1.fld 1) .unit))]) := by kernel_rfl
theorem q_spec_l1Cur_record (a0 : D) : z3S.F [a0] = rn (
 (z2Y.F [a0]).bind fun r1 =>
 (z0b.F [(r1.fld 1), (D.lst ((.int 1) :: ((.int 1) :: ((.int 1) :: ((.int 2) :: ((.int 5) :: ((.int 15) :: ((.int 16) :: ((.int 6) :: ([] : List D))))))))))]).bind fun r2 =>
 (z0b.F [(r2.fld 1), (D.lst ((.int 5) :: ((.int 60) :: ((.int 60) :: ((.int 300) :: ([] : List D))))))]).bind fun r3 =>
 (if ((r2.fld 0).i == 1) then
 (z0j.F [(r3.fld 1), (D.lst ((D.str [49, 46, 50, 46, 51, 46, 52]) :: ((D.str [49, 46, 50, 46, 51, 46, 53]) :: ((D.str [49, 48, 46, 48, 46, 48, 46, 49]) :: ((D.str [57, 46, 57, 46, 57, 46, 57]) :: ([] : List D))))))]).bind fun r4 =>
 ou 0 [(r4.fld 1), (.pair (r1.fld 0) (.pair (r2.fld 0) (.pair (r3.fld 0) (.pair (r4.fld 0) .unit))))]
 else
 (if ((r2.fld 0).i == 2) then
 ou 0 [(.bool ((r2.fld 0).i == 2))]
 else
 ou 0 [(.bool ((r2.fld 0).i == 5))]).bind fun o4 =>
 sel2 o4.1 (if (gd o4.2 0).b then
 (z2b.F [(r3.fld 1)]).bind fun r5 =>
 ou 0 [(r5.fld 1), (.pair (r1.fld 0) (.pair (r2.fld 0) (.pair (r3.fld 0) (.pair (r5.fld 0) .unit))))]
 else
 if ((r2.fld 0).i == 6) then
 (z03.F [(r3.fld 1), (.int 20)]).bind fun r5 =>
 (z1E.F [(r5.fld 0)]).bind fun r6 =>
 ou 0 [(r5.fld 1), (.pair (r1.fld 0) (.pair (r2.fld 0) (.pair (r3.fld 0) (.pair r6 .unit))))]
 else
 if ((r2.fld 0).i == 15) then
 (z03.F [(r3.fld 1), (.int 30)]).bind fun r5 =>
 (z1E.F [(r5.fld 0)]).bind fun r6 =>
 if (catOk r6.s ([32] : List UInt8)) then
 (z2b.F [(r5.fld 1)]).bind fun r7 =>
 if (catOk (r6.s ++ ([32] : List UInt8)) (r7.fld 0).s) then
 ou 0 [(r7.fld 1), (.pair (r1.fld 0) (.pair (r2.fld 0) (.pair (r3.fld 0) (.pair (.str ((r6.s ++ ([32] : List UInt8)) ++ (r7.fld 0).s)) .unit))))]
 else none
 else none
 else
 (z0j.F [(r3.fld 1), (D.lst ((D.str [104, 101, 108, 108, 111]) :: ((D.str []) :: ((D.str [118, 61, 49, 32, 120]) :: ([] : List D)))))]).bind fun r5 =>
 ou 0 [(r5.fld 1), (.pair (r1.fld 0) (.pair (r2.fld 0) (.pair (r3.fld 0) (.pair (r5.fld 0) .unit))))]) fun _ => none).bind fun o4 =>
 sel2 o4.1 (((z03.F [(gd o4.2 0), (.int 40)]).bind fun r6 =>
 if ((r6.fld 0).i == 0) then
 (z0b.F [(r6.fld 1), (D.lst ((.int (-1)) :: ((.int 0) :: ((.int 100000) :: ((.int 100001) :: ([] : List D))))))]).bind fun r7 =>
 ou 0 [(r7.fld 1), ((gd o4.2 1).setFld 2 (r7.fld 0))]
 else
 if ((r6.fld 0).i == 1) then
 (z0j.F [(r6.fld 1), (D.lst ((D.str [49, 46, 50, 46, 51]) :: ((D.str [50, 53, 54, 46, 49, 46, 49, 46, 49]) :: ((D.str [42]) :: ((D.str [52, 50, 57, 52, 57, 54, 55, 50, 57, 53]) :: ((D.str [52, 50, 57, 52, 57, 54, 55, 50, 57, 54]) :: ((D.str [55, 48, 48, 48, 48, 32, 97, 46, 98]) :: ((D.str [48, 49, 46, 50, 46, 51, 46, 52]) :: ((D.str [1]) :: ([] : List D))))))))))]).bind fun r7 =>
 ou 0 [(r7.fld 1), ((gd o4.2 1).setFld 3 (r7.fld 0))]
 else
 if ((r6.fld 0).i == 2) then
 (z03.F [(r6.fld 1), (.int 20)]).bind fun r7 =>
 ou 0 [(r7.fld 1), ((gd o4.2 1).setFld 1 (r7.fld 0))]
 else
 ou 0 [(r6.fld 1), (gd o4.2 1)]).bind fun o6 =>
 sel2 o6.1 (ou 0 [(.pair (gd o6.2 1) (.pair (gd o6.2 0) .unit))]) fun _ => none) fun _ => none) := by kernel_rfl
theorem q_spec_l1Cur_inZone (a0 : D) : z3R.F [a0] = rn (
 (z3S.F [a0]).bind fun r1 =>
 (z0e.F [(r1.fld 1), (.int 12)]).bind fun r2 =>
 if (r2.fld 0).b then
 ou 0 [(.pair (r1.fld 0) (.pair (r2.fld 1) .unit))]
 else
 (z0j.F [(r2.fld 1), (D.lst ((D.str [101, 120, 46, 99, 111, 109]) :: ((D.str [97, 46, 101, 120, 46, 99, 111, 109]) :: ((D.str [98, 46, 101, 120, 46, 99, 111, 109]) :: ((D.str [119, 119, 119, 46, 101, 120, 46, 99, 111, 109]) :: ((D.str [42, 46, 101, 120, 46, 99, 111, 109]) :: ((D.str [120, 46, 97, 46, 101, 120, 46, 99, 111, 109]) :: ((D.str [115, 117, 98, 46, 101, 120, 46, 99, 111, 109]) :: ((D.str [110, 115, 46, 115, 117, 98, 46, 101, 120, 46, 99, 111, 109]) :: ([] : List D))))))))))]).bind fun r3 =>
 ((if (((r1.fld 0).fld 1).i == 6) then
 (z0e.F [(r3.fld 1), (.int 4)]).bind fun r4 =>
 ou 0 [(r4.fld 1), (.bool (!(r4.fld 0).b))]
 else
 ou 0 [(r3.fld 1), (.bool false)]).bind fun o4 =>
 sel2 o4.1 (if (gd o4.2 1).b then
 ou 0 [(gd o4.2 0), (((((r1.fld 0).setFld 0 (r3.fld 0)).setFld 2 (.int 60)).setFld 1 (.int 1)).setFld 3 (D.str [49, 46, 50, 46, 51, 46, 52]))]
 else
 ou 0 [(gd o4.2 0), (((r1.fld 0).setFld 0 (r3.fld 0)).setFld 2 (.int 60))]) fun _ => none).bind fun o4 =>
 sel2 o4.1 (((if (((gd o4.2 1).fld 0).s == ([115, 117, 98, 46, 101, 120, 46, 99, 111, 109] : List UInt8)) then
 if (((gd o4.2 1).fld 1).i != 2) then
 (z0e.F [(gd o4.2 0), (.int 2)]).bind fun r6 =>
 ou 0 [(r6.fld 1), (r6.fld 0)]
 else
 ou 0 [(gd o4.2 0), (.bool false)]
 else
 ou 0 [(gd o4.2 0), (.bool false)]).bind fun o6 =>
 sel2 o6.1 (if (gd o6.2 1).b then
 ou 0 [(gd o6.2 0), (((gd o4.2 1).setFld 1 (.int 2)).setFld 3 (D.str [110, 115, 46, 115, 117, 98, 46, 101, 120, 46, 99, 111, 109]))]
 else
 ou 0 [(gd o6.2 0), (gd o4.2 1)]) fun _ => none).bind fun o6 =>
 sel2 o6.1 (ou 0 [(.pair (gd o6.2 1) (.pair (gd o6.2 0) .unit))]) fun _ => none) fun _ => none) := by kernel_rfl
theorem q_spec_l1Cur_batch (a0 : D) : z3v.F [a0] = rn (
 (z03.F [a0, (.int 3)]).bind fun r1 =>
 ((z0e.F [(r1.fld 1), (.int 40)]).bind fun r2 =>
 if (r2.fld 0).b then
 (z03.F [(r2.fld 1), (.int 2)]).bind fun r3 =>
 ou 0 [(r3.fld 1), (.int (IntKind.wrap .i64 (12 + (r3.fld 0).i)))]
 else
 ou 0 [(r2.fld 1), (.int (IntKind.wrap .i64 (1 + (r1.fld 0).i)))]).bind fun o2 =>
 sel2 o2.1 ((z0c (fun l4 =>
 if (decide ((gd l4 2).i > 0)) then
 (z0b.F [(gd l4 0), (D.lst ((.int 1) :: ((.int 1) :: ((.int 1) :: ((.int 1) :: ((.int 2) :: ((.int 3) :: ((.int 4) :: ([] : List D)))))))))]).bind fun r7 =>
 (z3R.F [(r7.fld 1)]).bind fun r8 =>
 if (appOk 56 (gd l4 1).l ((.pair (r7.fld 0) (.pair (r8.fld 0) .unit)) :: ([] : List D))) then
 ou 0 [(r8.fld 1), (D.lst ((gd l4 1).l ++ ((.pair (r7.fld 0) (.pair (r8.fld 0) .unit)) :: ([] : List D)))), (.int (IntKind.wrap .i64 ((gd l4 2).i - 1)))]
 else none
 else
 ou 1 [(gd l4 0), (gd l4 1)]) [(gd o2.2 0), (D.lst []), (gd o2.2 1)]).bind fun o4 =>
 sel2 o4.1 (((z0e.F [(gd o4.2 0), (.int 60)]).bind fun r6 =>
 if (r6.fld 0).b then
 (z03.F [(r6.fld 1), (.int 6)]).bind fun r7 =>
 if (inb 0 (gd o4.2 1).l.length) then
 ou 0 [(r7.fld 1), (D.lst (upd (gd o4.2 1).l 0 0 (r7.fld 0)))]
 else none
 else
 ou 0 [(r6.fld 1), (gd o4.2 1)]).bind fun o6 =>
 sel2 o6.1 (ou 0 [(.pair (gd o6.2 1) (.pair (gd o6.2 0) .unit))]) fun _ => none) fun _ => none) fun _ => none) := by kernel_rfl
theorem q_spec_l1Cur_askedChange (a0 : D) : z0l.F [a0] = rn (
 (z03.F [a0, (.int 3)]).bind fun r1 =>
 (z03.F [(r1.fld 1), (.int 6)]).bind fun r2 =>
 (z3v.F [(r2.fld 1)]).bind fun r3 =>
 ((z03.F [(r3.fld 1), (.int 60)]).bind fun r4 =>
 if ((r4.fld 0).i == 0) then
 (z0b.F [(r4.fld 1), (D.lst ((.int 0) :: ((.int 1000) :: ((.int 1001) :: ([] : List D)))))]).bind fun r5 =>
 ou 0 [(r5.fld 1), (.pair (r1.fld 0) (.pair (r5.fld 0) (.pair (r3.fld 0) .unit)))]
 else
 if ((r4.fld 0).i == 1) then
 (z0b.F [(r4.fld 1), (D.lst ((.int (-1)) :: ((.int 100) :: ((.int 101) :: ([] : List D)))))]).bind fun r5 =>
 ou 0 [(r5.fld 1), (.pair (r5.fld 0) (.pair (.int (IntKind.wrap .i64 (1 + (r2.fld 0).i))) (.pair (r3.fld 0) .unit)))]
 else
 ou 0 [(r4.fld 1), (.pair (r1.fld 0) (.pair (.int (IntKind.wrap .i64 (1 + (r2.fld 0).i))) (.pair (r3.fld 0) .unit)))]).bind fun o4 =>
 sel2 o4.1 (ou 0 [(.pair (gd o4.2 1) (.pair (gd o4.2 0) .unit))]) fun _ => none) := by kernel_rfl
theorem q_spec_l1Cur_askedList (a0 : D) : z1H.F [a0] = rn (
 (z03.F [a0, (.int 9)]).bind fun r1 =>
 (z0c (fun l2 =>
 if (decide ((gd l2 2).i > 0)) then
 ((z0l.F [(gd l2 0)]).bind fun r5 =>
 ((z0e.F [(r5.fld 1), (.int 2)]).bind fun r6 =>
 if (r6.fld 0).b then
 ou 0 [(r6.fld 1), ((r5.fld 0).setFld 1 (.int (IntKind.wrap .i64 (((gd l2 1).l.length : Int) + 1))))]
 else
 ou 0 [(r6.fld 1), (r5.fld 0)]).bind fun o6 =>
 sel2 o6.1 (if (appOk 40 (gd l2 1).l ((gd o6.2 1) :: ([] : List D))) then
 (z0e.F [(gd o6.2 0), (.int 5)]).bind fun r8 =>
 if (r8.fld 0).b then
 if (appOk 40 ((gd l2 1).l ++ ((gd o6.2 1) :: ([] : List D))) ((gd o6.2 1) :: ([] : List D))) then
 ou 0 [(r8.fld 1), (D.lst (((gd l2 1).l ++ ((gd o6.2 1) :: ([] : List D))) ++ ((gd o6.2 1) :: ([] : List D))))]
 else none
 else
 ou 0 [(r8.fld 1), (D.lst ((gd l2 1).l ++ ((gd o6.2 1) :: ([] : List D))))]
 else none) fun _ => none).bind fun o5 =>
 sel2 o5.1 (ou 0 [(gd o5.2 0), (gd o5.2 1), (.int (IntKind.wrap .i64 ((gd l2 2).i - 1)))]) fun _ => none
 else
 ou 1 [(gd l2 0), (gd l2 1)]) [(r1.fld 1), (D.lst []), (r1.fld 0)]).bind fun o2 =>
 sel2 o2.1 (((z0e.F [(gd o2.2 0), (.int 30)]).bind fun r4 =>
 if (r4.fld 0).b then
 (z0c (fun l5 =>
 (z03.F [(gd l5 0), (.int 2)]).bind fun r7 =>
 if (decide (((gd l5 1).l.length : Int) < (IntKind.wrap .i64 (40 + (r7.fld 0).i)))) then
 if (11 != 0) then
 if (appOk 40 (gd l5 1).l ((.pair (.int (((gd l5 1).l.length : Int).tmod 11)) (.pair (.int (IntKind.wrap .i64 (1 + ((gd l5 1).l.length : Int)))) (.pair (D.lst []) .unit))) :: ([] : List D))) then
 ou 0 [(r7.fld 1), (D.lst ((gd l5 1).l ++ ((.pair (.int (((gd l5 1).l.length : Int).tmod 11)) (.pair (.int (IntKind.wrap .i64 (1 + ((gd l5 1).l.length : Int)))) (.pair (D.lst []) .unit))) :: ([] : List D))))]
 else none
 else none
 else
 ou 1 [(r7.fld 1), (gd l5 1)]) [(r4.fld 1), (gd o2.2 1)]).bind fun o5 =>
 sel2 o5.1 (ou 0 [(gd o5.2 0), (gd o5.2 1)]) fun _ => none
 else
 ou 0 [(r4.fld 1), (gd o2.2 1)]).bind fun o4 =>
 sel2 o4.1 (ou 0 [(.pair (gd o4.2 1) (.pair (gd o4.2 0) .unit))]) fun _ => none) fun _ => none) := by kernel_rfl
theorem q_spec_l6Apex (a0 : D) : z4D.F [a0] = rn (
 (z0k.F [a0]).bind fun r1 =>
 (z0c (fun l2 =>
 if (decide ((gd l2 1).i < ((r1.fld 0).l.length : Int))) then
 (if (inb (gd l2 1).i (r1.fld 0).l.length) then
 if (gd l2 0).b then
 ou 0 [(.bool (!((gd (r1.fld 0).l (gd l2 1).i.toNat).s == ([42] : List UInt8))))]
 else
 ou 0 [(.bool false)]
 else none).bind fun o4 =>
 sel2 o4.1 (ou 0 [(gd o4.2 0), (.int (IntKind.wrap .i64 ((gd l2 1).i + 1)))]) fun _ => none
 else
 ou 1 [(gd l2 0)]) [(r1.fld 1), (.int 0)]).bind fun o2 =>
 sel2 o2.1 (ou 0 [(gd o2.2 0)]) fun _ => none) := by kernel_rfl
theorem q_spec_NewZone (a0 : D) : z5W.F [a0] = rn (
 (z4D.F [a0]).bind fun r1 =>
 if (!r1.b) then
 ou 0 [(.pair (.pair (.str []) (.pair (.int 0) (.pair (D.lst []) .unit))) (.pair (.bool false) .unit))]
 else
 ou 0 [(.pair (.pair a0 (.pair (.int 0) (.pair (D.lst ((.pair a0 (.pair (.int 6) (.pair (.int 60) (.pair (D.str [48]) .unit)))) :: ([] : List D))) .unit))) (.pair (.bool true) .unit))]) := by kernel_rfl
theorem q_spec_NewControl (a0 : D) : z4B.F [a0] = rn (
 (z5W.F [a0]).bind fun r1 =>
 if (!(r1.fld 1).b) then
 ou 0 [(.pair (.pair (.pair (.str []) (.pair (.int 0) (.pair (D.lst []) .unit))) (.pair (D.lst []) (.pair (.int 0) .unit))) (.pair (.bool false) .unit))]
 else
 ou 0 [(.pair (.pair (r1.fld 0) (.pair (D.lst []) (.pair (.int 0) .unit))) (.pair (.bool true) .unit))]) := by kernel_rfl
theorem q_spec_l6Own (a0 : D) : z2s.F [a0] = rn (
 if (appOk 48 ([] : List D) (a0.fld 2).l) then
 ou 0 [(a0.setFld 2 (D.lst (([] : List D) ++ (a0.fld 2).l)))]
 else none) := by kernel_rfl
theorem q_spec_l16Own (a0 : D) : z3Q.F [a0] = rn (
 (z2s.F [(a0.fld 0)]).bind fun r1 =>
 if (appOk 32 ([] : List D) (a0.fld 1).l) then
 ou 0 [((a0.setFld 0 r1).setFld 1 (D.lst (([] : List D) ++ (a0.fld 1).l)))]
 else none) := by kernel_rfl
theorem q_spec_l1Compare (a0 a1 : D) : z4Z.F [a0, a1] = rn (
 (z0k.F [a0]).bind fun r2 =>
 (z0k.F [a1]).bind fun r3 =>
 (z0c (fun l4 =>
 (if (decide ((gd l4 0).i ≤ ((r2.fld 0).l.length : Int))) then
 ou 0 [(.bool (decide ((gd l4 0).i ≤ ((r3.fld 0).l.length : Int))))]
 else
 ou 0 [(.bool false)]).bind fun o5 =>
 sel2 o5.1 (if (gd o5.2 0).b then
 if (inb (IntKind.wrap .i64 (((r2.fld 0).l.length : Int) - (gd l4 0).i)) (r2.fld 0).l.length) then
 if (inb (IntKind.wrap .i64 (((r3.fld 0).l.length : Int) - (gd l4 0).i)) (r3.fld 0).l.length) then
 if (Op.bytesLess (gd (r2.fld 0).l (IntKind.wrap .i64 (((r2.fld 0).l.length : Int) - (gd l4 0).i)).toNat).s (gd (r3.fld 0).l (IntKind.wrap .i64 (((r3.fld 0).l.length : Int) - (gd l4 0).i)).toNat).s) then
 ou 1 [(.int (-1))]
 else
 if (!(Op.bytesLess (gd (r2.fld 0).l (IntKind.wrap .i64 (((r2.fld 0).l.length : Int) - (gd l4 0).i)).toNat).s (gd (r3.fld 0).l (IntKind.wrap .i64 (((r3.fld 0).l.length : Int) - (gd l4 0).i)).toNat).s || (gd (r2.fld 0).l (IntKind.wrap .i64 (((r2.fld 0).l.length : Int) - (gd l4 0).i)).toNat).s == (gd (r3.fld 0).l (IntKind.wrap .i64 (((r3.fld 0).l.length : Int) - (gd l4 0).i)).toNat).s)) then
 ou 1 [(.int 1)]
 else
 ou 0 [(.int (IntKind.wrap .i64 ((gd l4 0).i + 1)))]
 else none
 else none
 else
 ou 2 []) fun _ => none) [(.int 1)]).bind fun o4 =>
 sel2 o4.1 (ou 0 [(gd o4.2 0)]) fun n2 =>
 sel2 n2 (if (decide (((r2.fld 0).l.length : Int) < ((r3.fld 0).l.length : Int))) then
 ou 0 [(.int (-1))]
 else
 if (decide (((r2.fld 0).l.length : Int) > ((r3.fld 0).l.length : Int))) then
 ou 0 [(.int 1)]
 else
 ou 0 [(.int 0)]) fun _ => none) := by kernel_rfl
theorem q_spec_l3Less (a0 : D) : z4C.F [a0] = rn (
 if a0.b then
 ou 0 [(.int (-1))]
 else
 ou 0 [(.int 1)]) := by kernel_rfl
theorem q_spec_l3Compare (a0 a1 : D) : z2n.F [a0, a1] = rn (
 (z4Z.F [(a0.fld 0), (a1.fld 0)]).bind fun r2 =>
 if (r2.i != 0) then
 ou 0 [r2]
 else
 (z25.F [(a0.fld 1), (a0.fld 3)]).bind fun r3 =>
 (z25.F [(a1.fld 1), (a1.fld 3)]).bind fun r4 =>
 if ((a0.fld 1).i != (a1.fld 1).i) then
 (z4C.F [(.bool (decide ((a0.fld 1).i < (a1.fld 1).i)))]).bind fun r5 =>
 ou 0 [r5]
 else
 if (!((r3.fld 0).s == (r4.fld 0).s)) then
 (z4C.F [(.bool (Op.bytesLess (r3.fld 0).s (r4.fld 0).s))]).bind fun r5 =>
 ou 0 [r5]
 else
 if ((a0.fld 2).i != (a1.fld 2).i) then
 (z4C.F [(.bool (decide ((a0.fld 2).i < (a1.fld 2).i)))]).bind fun r5 =>
 ou 0 [r5]
 else
 ou 0 [(.int 0)]) := by kernel_rfl
theorem q_spec_l6List (a0 : D) : z63.F [a0] = rn (
 (z0c (fun l1 =>
 if (decide ((gd l1 0).i < (a0.l.length : Int))) then
 if (inb (gd l1 0).i a0.l.length) then
 ((z1A.F [(gd a0.l (gd l1 0).i.toNat)]).bind fun r2 =>
 if (!r2.b) then
 ou 0 [(.bool true)]
 else
 if (decide ((gd l1 0).i > 0)) then
 if (inb (IntKind.wrap .i64 ((gd l1 0).i - 1)) a0.l.length) then
 (z2n.F [(gd a0.l (IntKind.wrap .i64 ((gd l1 0).i - 1)).toNat), (gd a0.l (gd l1 0).i.toNat)]).bind fun r3 =>
 ou 0 [(.bool (decide (r3.i ≥ 0)))]
 else none
 else
 ou 0 [(.bool false)]).bind fun o2 =>
 sel2 o2.1 (if (gd o2.2 0).b then
 ou 1 []
 else
 ou 0 [(.int (IntKind.wrap .i64 ((gd l1 0).i + 1)))]) fun _ => none
 else none
 else
 ou 2 []) [(.int 0)]).bind fun o1 =>
 sel2 o1.1 (ou 0 [(.bool false)]) fun n2 =>
 sel2 n2 (ou 0 [(.bool (decide ((a0.l.length : Int) ≤ 40)))]) fun _ => none) := by kernel_rfl
theorem q_spec_l1Below (a0 a1 : D) : z3o.F [a0, a1] = rn (
 (if (a1.s == ([] : List UInt8)) then
 ou 0 [(.bool true)]
 else
 if (a0.s == a1.s) then
 ou 0 [(.bool true)]
 else
 if (decide ((IntKind.wrap .i64 ((a0.s.length : Int) - (a1.s.length : Int))) > 0)) then
 if (slOk (IntKind.wrap .i64 ((a0.s.length : Int) - (a1.s.length : Int))) (a0.s.length : Int) (a0.s.length : Int)) then
 if (((a0.s.take (a0.s.length : Int).toNat).drop (IntKind.wrap .i64 ((a0.s.length : Int) - (a1.s.length : Int))).toNat) == a1.s) then
 if (inb (IntKind.wrap .i64 ((IntKind.wrap .i64 ((a0.s.length : Int) - (a1.s.length : Int))) - 1)) a0.s.length) then
 ou 0 [(.bool ((byteAt a0.s (IntKind.wrap .i64 ((IntKind.wrap .i64 ((a0.s.length : Int) - (a1.s.length : Int))) - 1)).toNat : Int) == 46))]
 else none
 else
 ou 0 [(.bool false)]
 else none
 else
 ou 0 [(.bool false)]).bind fun o2 =>
 sel2 o2.1 (ou 0 [(gd o2.2 0)]) fun _ => none) := by kernel_rfl
theorem q_spec_l6Has (a0 a1 a2 : D) : z3N.F [a0, a1, a2] = rn (
 (z0c (fun l3 =>
 if (decide ((gd l3 0).i < (a0.l.length : Int))) then
 if (inb (gd l3 0).i a0.l.length) then
 (if (((gd a0.l (gd l3 0).i.toNat).fld 0).s == a1.s) then
 ou 0 [(.bool (((gd a0.l (gd l3 0).i.toNat).fld 1).i == a2.i))]
 else
 ou 0 [(.bool false)]).bind fun o4 =>
 sel2 o4.1 (if (gd o4.2 0).b then
 ou 1 [(.bool true)]
 else
 ou 0 [(.int (IntKind.wrap .i64 ((gd l3 0).i + 1)))]) fun _ => none
 else none
 else
 ou 2 []) [(.int 0)]).bind fun o3 =>
 sel2 o3.1 (ou 0 [(gd o3.2 0)]) fun n2 =>
 sel2 n2 (ou 0 [(.bool false)]) fun _ => none) := by kernel_rfl
theorem q_spec_l1Parent (a0 : D) : z4v.F [a0] = rn (
 (z0c (fun l1 =>
 if (decide ((gd l1 0).i < (a0.s.length : Int))) then
 if (inb (gd l1 0).i a0.s.length) then
 if ((byteAt a0.s (gd l1 0).i.toNat : Int) == 46) then
 if (slOk (IntKind.wrap .i64 ((gd l1 0).i + 1)) (a0.s.length : Int) (a0.s.length : Int)) then
 ou 1 [(.str ((a0.s.take (a0.s.length : Int).toNat).drop (IntKind.wrap .i64 ((gd l1 0).i + 1)).toNat))]
 else none
 else
 ou 0 [(.int (IntKind.wrap .i64 ((gd l1 0).i + 1)))]
 else none
 else
 ou 2 []) [(.int 0)]).bind fun o1 =>
 sel2 o1.1 (ou 0 [(gd o1.2 0)]) fun n2 =>
 sel2 n2 (ou 0 [(D.str [])]) fun _ => none) := by kernel_rfl
theorem q_spec_l6Cut (a0 a1 a2 : D) : z6T.F [a0, a1, a2] = rn (
 (z0c (fun l3 =>
 (if (!((gd l3 0).s == a0.s)) then
 (z3o.F [(gd l3 0), a0]).bind fun r6 =>
 ou 0 [r6]
 else
 ou 0 [(.bool false)]).bind fun o6 =>
 sel2 o6.1 (if (gd o6.2 0).b then
 ((z3N.F [a1, (gd l3 0), (.int 2)]).bind fun r7 =>
 if r7.b then
 ou 0 [(gd l3 0), (.bool true)]
 else
 ou 0 [(gd l3 1), (gd l3 2)]).bind fun o7 =>
 sel2 o7.1 (if ((gd l3 0).s == ([] : List UInt8)) then
 ou 1 [(gd o7.2 0), (gd o7.2 1)]
 else
 (z4v.F [(gd l3 0)]).bind fun r9 =>
 ou 0 [r9, (gd o7.2 0), (gd o7.2 1)]) fun _ => none
 else
 ou 1 [(gd l3 1), (gd l3 2)]) fun _ => none) [a2, (D.str []), (.bool false)]).bind fun o3 =>
 sel2 o3.1 (ou 0 [(.pair (gd o3.2 0) (.pair (gd o3.2 1) .unit))]) fun _ => none) := by kernel_rfl
theorem q_spec_l6Rule (a0 a1 : D) : z4E.F [a0, a1] = rn (
 (z0c (fun l2 =>
 if (decide ((gd l2 1).i < (a1.l.length : Int))) then
 (if (inb (gd l2 1).i a1.l.length) then
 (z3o.F [((gd a1.l (gd l2 1).i.toNat).fld 0), a0]).bind fun r4 =>
 if (!r4.b) then
 ou 1 [(.int 1)]
 else
 if (((gd a1.l (gd l2 1).i.toNat).fld 1).i == 6) then
 if (!(((gd a1.l (gd l2 1).i.toNat).fld 0).s == a0.s)) then
 ou 0 [(.int (IntKind.wrap .i64 ((IntKind.wrap .i64 ((gd l2 0).i + 1)) + 1)))]
 else
 ou 0 [(.int (IntKind.wrap .i64 ((gd l2 0).i + 1)))]
 else
 ou 0 [(gd l2 0)]
 else none).bind fun o4 =>
 sel2 o4.1 (ou 0 [(gd o4.2 0), (.int (IntKind.wrap .i64 ((gd l2 1).i + 1)))]) fun n8 =>
 sel2 n8 (ou 1 [(gd o4.2 0)]) fun _ => none
 else
 ou 2 [(gd l2 0)]) [(.int 0), (.int 0)]).bind fun o2 =>
 sel2 o2.1 (ou 0 [(gd o2.2 0)]) fun n2 =>
 sel2 n2 (if ((gd o2.2 0).i != 1) then
 ou 0 [(.int 2)]
 else
 (z0c (fun l3 =>
 if (decide ((gd l3 0).i < (a1.l.length : Int))) then
 if (inb (gd l3 0).i a1.l.length) then
 (if (decide ((gd l3 0).i > 0)) then
 if (inb (IntKind.wrap .i64 ((gd l3 0).i - 1)) a1.l.length) then
 if (((gd a1.l (IntKind.wrap .i64 ((gd l3 0).i - 1)).toNat).fld 0).s == ((gd a1.l (gd l3 0).i.toNat).fld 0).s) then
 if (((gd a1.l (IntKind.wrap .i64 ((gd l3 0).i - 1)).toNat).fld 1).i == ((gd a1.l (gd l3 0).i.toNat).fld 1).i) then
 if (((gd a1.l (IntKind.wrap .i64 ((gd l3 0).i - 1)).toNat).fld 2).i != ((gd a1.l (gd l3 0).i.toNat).fld 2).i) then
 ou 0 [(.bool true)]
 else
 ou 0 [(.bool (((gd a1.l (IntKind.wrap .i64 ((gd l3 0).i - 1)).toNat).fld 3).s == ((gd a1.l (gd l3 0).i.toNat).fld 3).s))]
 else
 ou 0 [(.bool false)]
 else
 ou 0 [(.bool false)]
 else none
 else
 ou 0 [(.bool false)]).bind fun o4 =>
 sel2 o4.1 (if (gd o4.2 0).b then
 ou 1 [(.int 3)]
 else
 ou 0 [(.int (IntKind.wrap .i64 ((gd l3 0).i + 1)))]) fun _ => none
 else none
 else
 ou 2 []) [(.int 0)]).bind fun o3 =>
 sel2 o3.1 (ou 0 [(gd o3.2 0)]) fun n6 =>
 sel2 n6 ((z0c (fun l3 =>
 if (decide ((gd l3 0).i < (a1.l.length : Int))) then
 if (inb (gd l3 0).i a1.l.length) then
 if (slOk 0 (gd l3 0).i (a1.l.length : Int)) then
 (z0c (fun l4 =>
 if (decide ((gd l4 0).i < (((a1.l.take (gd l3 0).i.toNat).drop 0).length : Int))) then
 if (inb (gd l4 0).i ((a1.l.take (gd l3 0).i.toNat).drop 0).length) then
 (if (((gd (D.lst ((a1.l.take (gd l3 0).i.toNat).drop 0)).l (gd l4 0).i.toNat).fld 0).s == ((gd a1.l (gd l3 0).i.toNat).fld 0).s) then
 if (((gd (D.lst ((a1.l.take (gd l3 0).i.toNat).drop 0)).l (gd l4 0).i.toNat).fld 1).i == 5) then
 ou 0 [(.bool true)]
 else
 ou 0 [(.bool (((gd a1.l (gd l3 0).i.toNat).fld 1).i == 5))]
 else
 ou 0 [(.bool false)]).bind fun o5 =>
 sel2 o5.1 (if (gd o5.2 0).b then
 ou 1 [(.int 4)]
 else
 ou 0 [(.int (IntKind.wrap .i64 ((gd l4 0).i + 1)))]) fun _ => none
 else none
 else
 ou 2 []) [(.int 0)]).bind fun o4 =>
 sel2 o4.1 (ou 1 [(gd o4.2 0)]) fun n14 =>
 sel2 n14 (ou 0 [(.int (IntKind.wrap .i64 ((gd l3 0).i + 1)))]) fun _ => none
 else none
 else none
 else
 ou 2 []) [(.int 0)]).bind fun o3 =>
 sel2 o3.1 (ou 0 [(gd o3.2 0)]) fun n8 =>
 sel2 n8 ((z3N.F [a1, a0, (.int 5)]).bind fun r3 =>
 if r3.b then
 ou 0 [(.int 5)]
 else
 (z0c (fun l4 =>
 if (decide ((gd l4 0).i < (a1.l.length : Int))) then
 if (inb (gd l4 0).i a1.l.length) then
 (z6T.F [a0, a1, ((gd a1.l (gd l4 0).i.toNat).fld 0)]).bind fun r5 =>
 (if (r5.fld 1).b then
 if (((gd a1.l (gd l4 0).i.toNat).fld 1).i != 1) then
 if (((gd a1.l (gd l4 0).i.toNat).fld 1).i != 2) then
 ou 0 [(.bool true)]
 else
 ou 0 [(.bool (!(((gd a1.l (gd l4 0).i.toNat).fld 0).s == (r5.fld 0).s)))]
 else
 ou 0 [(.bool false)]
 else
 ou 0 [(.bool false)]).bind fun o6 =>
 sel2 o6.1 (if (gd o6.2 0).b then
 ou 1 [(.int 6)]
 else
 ou 0 [(.int (IntKind.wrap .i64 ((gd l4 0).i + 1)))]) fun _ => none
 else none
 else
 ou 2 []) [(.int 0)]).bind fun o4 =>
 sel2 o4.1 (ou 0 [(gd o4.2 0)]) fun n12 =>
 sel2 n12 (ou 0 [(.int 0)]) fun _ => none) fun _ => none) fun _ => none) fun _ => none) := by kernel_rfl
theorem q_spec_RuleOf (a0 a1 : D) : z62.F [a0, a1] = rn (
 ((z4D.F [a0]).bind fun r2 =>
 if (!r2.b) then
 ou 0 [(.bool true)]
 else
 (z63.F [a1]).bind fun r3 =>
 ou 0 [(.bool (!r3.b))]).bind fun o2 =>
 sel2 o2.1 (if (gd o2.2 0).b then
 ou 0 [(.int 9)]
 else
 (z4E.F [a0, a1]).bind fun r3 =>
 ou 0 [r3]) fun _ => none) := by kernel_rfl
theorem q_spec_l6Soa (a0 : D) : z4i.F [a0] = rn (
 if (4294967296 != 0) then
 (z1E.F [(.int ((a0.fld 1).i.tmod 4294967296))]).bind fun r1 =>
 ou 0 [r1]
 else none) := by kernel_rfl
theorem q_spec_GoodZone (a0 : D) : z3H.F [a0] = rn (
 ((z0X.F [(a0.fld 1), (.int 0), (.int 1152921504606846976)]).bind fun r1 =>
 if (!r1.b) then
 ou 0 [(.bool true)]
 else
 (z62.F [(a0.fld 0), (a0.fld 2)]).bind fun r2 =>
 ou 0 [(.bool (r2.i != 0))]).bind fun o1 =>
 sel2 o1.1 (if (gd o1.2 0).b then
 ou 0 [(.bool false)]
 else
 (z0c (fun l2 =>
 if (decide ((gd l2 0).i < ((a0.fld 2).l.length : Int))) then
 if (inb (gd l2 0).i (a0.fld 2).l.length) then
 (if (((gd (a0.fld 2).l (gd l2 0).i.toNat).fld 1).i == 6) then
 (z4i.F [a0]).bind fun r3 =>
 ou 0 [(.bool (!(((gd (a0.fld 2).l (gd l2 0).i.toNat).fld 3).s == r3.s)))]
 else
 ou 0 [(.bool false)]).bind fun o3 =>
 sel2 o3.1 (if (gd o3.2 0).b then
 ou 1 [(.bool false)]
 else
 ou 0 [(.int (IntKind.wrap .i64 ((gd l2 0).i + 1)))]) fun _ => none
 else none
 else
 ou 2 []) [(.int 0)]).bind fun o2 =>
 sel2 o2.1 (ou 0 [(gd o2.2 0)]) fun n6 =>
 sel2 n6 (ou 0 [(.bool true)]) fun _ => none) fun _ => none) := by kernel_rfl
theorem q_spec_l6Drop (a0 a1 : D) : z4x.F [a0, a1] = rn (
 (z0c (fun l2 =>
 if (decide ((gd l2 1).i < (a0.l.length : Int))) then
 (if (inb (gd l2 1).i a0.l.length) then
 (if (!(((gd a0.l (gd l2 1).i.toNat).fld 0).s == (a1.fld 0).s)) then
 ou 0 [(.bool true)]
 else
 if (((gd a0.l (gd l2 1).i.toNat).fld 1).i != (a1.fld 1).i) then
 ou 0 [(.bool true)]
 else
 ou 0 [(.bool (!(((gd a0.l (gd l2 1).i.toNat).fld 3).s == (a1.fld 3).s)))]).bind fun o4 =>
 sel2 o4.1 (if (gd o4.2 0).b then
 if (appOk 48 (gd l2 0).l ((gd a0.l (gd l2 1).i.toNat) :: ([] : List D))) then
 ou 0 [(D.lst ((gd l2 0).l ++ ((gd a0.l (gd l2 1).i.toNat) :: ([] : List D))))]
 else none
 else
 ou 0 [(gd l2 0)]) fun _ => none
 else none).bind fun o4 =>
 sel2 o4.1 (ou 0 [(gd o4.2 0), (.int (IntKind.wrap .i64 ((gd l2 1).i + 1)))]) fun _ => none
 else
 ou 1 [(gd l2 0)]) [(D.lst []), (.int 0)]).bind fun o2 =>
 sel2 o2.1 (ou 0 [(gd o2.2 0)]) fun _ => none) := by kernel_rfl
theorem q_spec_l3Put (a0 a1 : D) : z6S.F [a0, a1] = rn (
 (z0c (fun l2 =>
 (if (decide ((gd l2 0).i < (a0.l.length : Int))) then
 if (inb (gd l2 0).i a0.l.length) then
 (z2n.F [(gd a0.l (gd l2 0).i.toNat), a1]).bind fun r3 =>
 ou 0 [(.bool (decide (r3.i < 0)))]
 else none
 else
 ou 0 [(.bool false)]).bind fun o3 =>
 sel2 o3.1 (if (gd o3.2 0).b then
 ou 0 [(.int (IntKind.wrap .i64 ((gd l2 0).i + 1)))]
 else
 ou 1 [(gd l2 0)]) fun _ => none) [(.int 0)]).bind fun o2 =>
 sel2 o2.1 ((if (decide ((gd o2.2 0).i < (a0.l.length : Int))) then
 if (inb (gd o2.2 0).i a0.l.length) then
 ou 0 [(.bool (D.beq (gd a0.l (gd o2.2 0).i.toNat) a1))]
 else none
 else
 ou 0 [(.bool false)]).bind fun o3 =>
 sel2 o3.1 (if (gd o3.2 0).b then
 ou 0 [a0]
 else
 if (slOk 0 (gd o2.2 0).i (a0.l.length : Int)) then
 if (appOk 48 ([] : List D) ((a0.l.drop 0).take (((gd o2.2 0).i.toNat - 0 : Nat) : Int).toNat)) then
 if (appOk 48 (([] : List D) ++ ((a0.l.drop 0).take (((gd o2.2 0).i.toNat - 0 : Nat) : Int).toNat)) (a1 :: ([] : List D))) then
 if (slOk (gd o2.2 0).i (a0.l.length : Int) (a0.l.length : Int)) then
 if (appOk 48 ((([] : List D) ++ ((a0.l.drop 0).take (((gd o2.2 0).i.toNat - 0 : Nat) : Int).toNat)) ++ (a1 :: ([] : List D))) ((a0.l.drop (gd o2.2 0).i.toNat).take (((a0.l.length : Int).toNat - (gd o2.2 0).i.toNat : Nat) : Int).toNat)) then
 ou 0 [(D.lst (((([] : List D) ++ ((a0.l.drop 0).take (((gd o2.2 0).i.toNat - 0 : Nat) : Int).toNat)) ++ (a1 :: ([] : List D))) ++ ((a0.l.drop (gd o2.2 0).i.toNat).take (((a0.l.length : Int).toNat - (gd o2.2 0).i.toNat : Nat) : Int).toNat)))]
 else none
 else none
 else none
 else none
 else none) fun _ => none) fun _ => none) := by kernel_rfl
theorem q_spec_ApplyBatch (a0 a1 : D) : z4A.F [a0, a1] = rn (
 (z3H.F [a0]).bind fun r2 =>
 if (!r2.b) then
 ou 0 [(.pair (.pair (.str []) (.pair (.int 0) (.pair (D.lst []) .unit))) (.pair (.int 1) .unit))]
 else
 (z2w.F [a1]).bind fun r3 =>
 if (!r3.b) then
 (z2s.F [a0]).bind fun r4 =>
 ou 0 [(.pair r4 (.pair (.int 1) .unit))]
 else
 (z0c (fun l4 =>
 if (decide ((gd l4 0).i < (a1.l.length : Int))) then
 if (inb (gd l4 0).i a1.l.length) then
 (z3N.F [(a0.fld 2), (((gd a1.l (gd l4 0).i.toNat).fld 1).fld 0), (((gd a1.l (gd l4 0).i.toNat).fld 1).fld 1)]).bind fun r5 =>
 (if (((gd a1.l (gd l4 0).i.toNat).fld 0).i == 3) then
 if (!r5.b) then
 ou 0 [(.bool true)]
 else
 if (((gd a1.l (gd l4 0).i.toNat).fld 0).i == 4) then
 ou 0 [r5]
 else
 ou 0 [(.bool false)]
 else
 if (((gd a1.l (gd l4 0).i.toNat).fld 0).i == 4) then
 ou 0 [r5]
 else
 ou 0 [(.bool false)]).bind fun o6 =>
 sel2 o6.1 (if (gd o6.2 0).b then
 (z2s.F [a0]).bind fun r7 =>
 ou 1 [r7, (.int 2)]
 else
 ou 0 [(.int (IntKind.wrap .i64 ((gd l4 0).i + 1)))]) fun _ => none
 else none
 else
 ou 2 []) [(.int 0)]).bind fun o4 =>
 sel2 o4.1 (ou 0 [(.pair (gd o4.2 0) (.pair (gd o4.2 1) .unit))]) fun n6 =>
 sel2 n6 (if (appOk 48 ([] : List D) (a0.fld 2).l) then
 (z0c (fun l4 =>
 if (decide ((gd l4 1).i < (a1.l.length : Int))) then
 (if (inb (gd l4 1).i a1.l.length) then
 if (((gd a1.l (gd l4 1).i.toNat).fld 0).i == 2) then
 (z4x.F [(gd l4 0), ((gd a1.l (gd l4 1).i.toNat).fld 1)]).bind fun r6 =>
 ou 0 [r6]
 else
 if (((gd a1.l (gd l4 1).i.toNat).fld 0).i == 1) then
 (z4x.F [(gd l4 0), ((gd a1.l (gd l4 1).i.toNat).fld 1)]).bind fun r6 =>
 (z6S.F [r6, ((gd a1.l (gd l4 1).i.toNat).fld 1)]).bind fun r7 =>
 ou 0 [r7]
 else
 ou 0 [(gd l4 0)]
 else none).bind fun o6 =>
 sel2 o6.1 (ou 0 [(gd o6.2 0), (.int (IntKind.wrap .i64 ((gd l4 1).i + 1)))]) fun _ => none
 else
 ou 1 [(gd l4 0)]) [(D.lst (([] : List D) ++ (a0.fld 2).l)), (.int 0)]).bind fun o4 =>
 sel2 o4.1 ((if (decide (((gd o4.2 0).l.length : Int) > 40)) then
 ou 0 [(.bool true)]
 else
 ou 0 [(.bool ((a0.fld 1).i == 1152921504606846976))]).bind fun o5 =>
 sel2 o5.1 (if (gd o5.2 0).b then
 (z2s.F [a0]).bind fun r6 =>
 ou 0 [(.pair r6 (.pair (.int 4) .unit))]
 else
 (z4E.F [(a0.fld 0), (gd o4.2 0)]).bind fun r6 =>
 if (r6.i != 0) then
 (z2s.F [a0]).bind fun r7 =>
 ou 0 [(.pair r7 (.pair (.int 3) .unit))]
 else
 (z0c (fun l7 =>
 if (decide ((gd l7 1).i < ((gd o4.2 0).l.length : Int))) then
 if (inb (gd l7 1).i (gd o4.2 0).l.length) then
 (if (((gd (gd o4.2 0).l (gd l7 1).i.toNat).fld 1).i == 6) then
 (z4i.F [(gd l7 0)]).bind fun r9 =>
 ou 0 [((gd (gd o4.2 0).l (gd l7 1).i.toNat).setFld 3 r9)]
 else
 ou 0 [(gd (gd o4.2 0).l (gd l7 1).i.toNat)]).bind fun o9 =>
 sel2 o9.1 (if (appOk 48 ((gd l7 0).fld 2).l ((gd o9.2 0) :: ([] : List D))) then
 ou 0 [((gd l7 0).setFld 2 (D.lst (((gd l7 0).fld 2).l ++ ((gd o9.2 0) :: ([] : List D))))), (.int (IntKind.wrap .i64 ((gd l7 1).i + 1)))]
 else none) fun _ => none
 else none
 else
 ou 1 [(gd l7 0)]) [(.pair (a0.fld 0) (.pair (.int (IntKind.wrap .i64 ((a0.fld 1).i + 1))) (.pair (D.lst []) .unit))), (.int 0)]).bind fun o7 =>
 sel2 o7.1 (ou 0 [(.pair (gd o7.2 0) (.pair (.int 0) .unit))]) fun _ => none) fun _ => none) fun _ => none
 else none) fun _ => none) := by kernel_rfl
theorem q_spec_l16Take (a0 a1 : D) : z3n.F [a0, a1] = rn (
 (z2P.F [(a1.fld 0), (a1.fld 1)]).bind fun r2 =>
 if (!r2.b) then
 ou 0 [(.pair (.pair (.pair (.str []) (.pair (.int 0) (.pair (D.lst []) .unit))) (.pair (D.lst []) (.pair (.int 0) .unit))) (.pair (.pair (.int 0) (.pair (.int 0) (.pair (.int 0) (.pair (.int 0) .unit)))) (.pair (.bool false) .unit)))]
 else
 (z0c (fun l3 =>
 (if (decide ((gd l3 0).i < ((a0.fld 1).l.length : Int))) then
 if (inb (gd l3 0).i (a0.fld 1).l.length) then
 ou 0 [(.bool (decide (((gd (a0.fld 1).l (gd l3 0).i.toNat).fld 0).i < (a1.fld 0).i)))]
 else none
 else
 ou 0 [(.bool false)]).bind fun o4 =>
 sel2 o4.1 (if (gd o4.2 0).b then
 ou 0 [(.int (IntKind.wrap .i64 ((gd l3 0).i + 1)))]
 else
 ou 1 [(gd l3 0)]) fun _ => none) [(.int 0)]).bind fun o3 =>
 sel2 o3.1 ((if (decide ((gd o3.2 0).i < ((a0.fld 1).l.length : Int))) then
 if (inb (gd o3.2 0).i (a0.fld 1).l.length) then
 ou 0 [(.bool (((gd (a0.fld 1).l (gd o3.2 0).i.toNat).fld 0).i == (a1.fld 0).i))]
 else none
 else
 ou 0 [(.bool false)]).bind fun o4 =>
 sel2 o4.1 ((if (gd o4.2 0).b then
 if (inb (gd o3.2 0).i (a0.fld 1).l.length) then
 ou 0 [(.bool (((gd (a0.fld 1).l (gd o3.2 0).i.toNat).fld 1).i == (a1.fld 1).i))]
 else none
 else
 ou 0 [(.bool false)]).bind fun o5 =>
 sel2 o5.1 (if (gd o5.2 0).b then
 if (inb (gd o3.2 0).i (a0.fld 1).l.length) then
 ou 0 [(.pair a0 (.pair (gd (a0.fld 1).l (gd o3.2 0).i.toNat) (.pair (.bool true) .unit)))]
 else none
 else
 (if (gd o4.2 0).b then
 if (inb (gd o3.2 0).i (a0.fld 1).l.length) then
 if (decide (((gd (a0.fld 1).l (gd o3.2 0).i.toNat).fld 1).i > (a1.fld 1).i)) then
 ou 0 [(.bool true)]
 else
 if (!(gd o4.2 0).b) then
 if (((a0.fld 1).l.length : Int) == 8) then
 ou 0 [(.bool true)]
 else
 ou 0 [(.bool ((a0.fld 2).i == 1000000))]
 else
 ou 0 [(.bool ((a0.fld 2).i == 1000000))]
 else none
 else
 if (!(gd o4.2 0).b) then
 if (((a0.fld 1).l.length : Int) == 8) then
 ou 0 [(.bool true)]
 else
 ou 0 [(.bool ((a0.fld 2).i == 1000000))]
 else
 ou 0 [(.bool ((a0.fld 2).i == 1000000))]).bind fun o6 =>
 sel2 o6.1 (if (gd o6.2 0).b then
 ou 0 [(.pair (.pair (.pair (.str []) (.pair (.int 0) (.pair (D.lst []) .unit))) (.pair (D.lst []) (.pair (.int 0) .unit))) (.pair (.pair (.int 0) (.pair (.int 0) (.pair (.int 0) (.pair (.int 0) .unit)))) (.pair (.bool false) .unit)))]
 else
 (z4A.F [(a0.fld 0), (a1.fld 2)]).bind fun r7 =>
 if (4294967296 != 0) then
 if (slOk 0 (gd o3.2 0).i ((a0.fld 1).l.length : Int)) then
 if (appOk 32 ([] : List D) (((a0.fld 1).l.drop 0).take (((gd o3.2 0).i.toNat - 0 : Nat) : Int).toNat)) then
 if (appOk 32 (([] : List D) ++ (((a0.fld 1).l.drop 0).take (((gd o3.2 0).i.toNat - 0 : Nat) : Int).toNat)) ((.pair (a1.fld 0) (.pair (a1.fld 1) (.pair (r7.fld 1) (.pair (.int (((r7.fld 0).fld 1).i.tmod 4294967296)) .unit)))) :: ([] : List D))) then
 (if (gd o4.2 0).b then
 ou 0 [(.int (IntKind.wrap .i64 ((gd o3.2 0).i + 1)))]
 else
 ou 0 [(gd o3.2 0)]).bind fun o8 =>
 sel2 o8.1 (if (slOk (gd o8.2 0).i ((a0.fld 1).l.length : Int) ((a0.fld 1).l.length : Int)) then
 if (appOk 32 ((([] : List D) ++ (((a0.fld 1).l.drop 0).take (((gd o3.2 0).i.toNat - 0 : Nat) : Int).toNat)) ++ ((.pair (a1.fld 0) (.pair (a1.fld 1) (.pair (r7.fld 1) (.pair (.int (((r7.fld 0).fld 1).i.tmod 4294967296)) .unit)))) :: ([] : List D))) (((a0.fld 1).l.drop (gd o8.2 0).i.toNat).take ((((a0.fld 1).l.length : Int).toNat - (gd o8.2 0).i.toNat : Nat) : Int).toNat)) then
 ou 0 [(.pair (.pair (r7.fld 0) (.pair (D.lst (((([] : List D) ++ (((a0.fld 1).l.drop 0).take (((gd o3.2 0).i.toNat - 0 : Nat) : Int).toNat)) ++ ((.pair (a1.fld 0) (.pair (a1.fld 1) (.pair (r7.fld 1) (.pair (.int (((r7.fld 0).fld 1).i.tmod 4294967296)) .unit)))) :: ([] : List D))) ++ (((a0.fld 1).l.drop (gd o8.2 0).i.toNat).take ((((a0.fld 1).l.length : Int).toNat - (gd o8.2 0).i.toNat : Nat) : Int).toNat))) (.pair (.int (IntKind.wrap .i64 ((a0.fld 2).i + 1))) .unit))) (.pair (.pair (a1.fld 0) (.pair (a1.fld 1) (.pair (r7.fld 1) (.pair (.int (((r7.fld 0).fld 1).i.tmod 4294967296)) .unit)))) (.pair (.bool true) .unit)))]
 else none
 else none) fun _ => none
 else none
 else none
 else none
 else none) fun _ => none) fun _ => none) fun _ => none) fun _ => none) := by kernel_rfl
theorem q_spec_PlayAsked (a0 a1 : D) : z2m.F [a0, a1] = rn (
 (z4B.F [a0]).bind fun r2 =>
 (if (!(r2.fld 1).b) then
 ou 0 [(.bool true)]
 else
 ou 0 [(.bool (decide ((a1.l.length : Int) > 40)))]).bind fun o3 =>
 sel2 o3.1 (if (gd o3.2 0).b then
 ou 0 [(.pair (.pair (.pair (.str []) (.pair (.int 0) (.pair (D.lst []) .unit))) (.pair (D.lst []) (.pair (.int 0) .unit))) (.pair (D.lst []) (.pair (.bool false) .unit)))]
 else
 (z0c (fun l4 =>
 if (decide ((gd l4 2).i < (a1.l.length : Int))) then
 if (inb (gd l4 2).i a1.l.length) then
 (z3Q.F [(gd l4 0)]).bind fun r7 =>
 (z3n.F [r7, (gd a1.l (gd l4 2).i.toNat)]).bind fun r8 =>
 (if (r8.fld 2).b then
 ou 0 [(r8.fld 0)]
 else
 ou 0 [(gd l4 0)]).bind fun o9 =>
 sel2 o9.1 (if (appOk 32 (gd l4 1).l ((r8.fld 1) :: ([] : List D))) then
 ou 0 [(gd o9.2 0), (D.lst ((gd l4 1).l ++ ((r8.fld 1) :: ([] : List D)))), (.int (IntKind.wrap .i64 ((gd l4 2).i + 1)))]
 else none) fun _ => none
 else none
 else
 ou 1 [(gd l4 0), (gd l4 1)]) [(r2.fld 0), (D.lst []), (.int 0)]).bind fun o4 =>
 sel2 o4.1 ((z3Q.F [(gd o4.2 0)]).bind fun r6 =>
 ou 0 [(.pair r6 (.pair (gd o4.2 1) (.pair (.bool true) .unit)))]) fun _ => none) fun _ => none) := by kernel_rfl
theorem q_spec_l1Cur_control (a0 : D) : z39.F [a0] = rn (
 (z1H.F [a0]).bind fun r1 =>
 (if (decide (((r1.fld 0).l.length : Int) > 12)) then
 if (slOk 0 12 ((r1.fld 0).l.length : Int)) then
 if (winOk 0 ((12 - 0 : Nat) : Int).toNat (r1.fld 0).l) then
 ou 0 [(D.lst (((r1.fld 0).l.drop 0).take ((12 - 0 : Nat) : Int).toNat))]
 else none
 else none
 else
 ou 0 [(r1.fld 0)]).bind fun o2 =>
 sel2 o2.1 ((z2m.F [(D.str [101, 120, 46, 99, 111, 109]), (gd o2.2 0)]).bind fun r3 =>
 ((z03.F [(r1.fld 1), (.int 40)]).bind fun r4 =>
 if ((r4.fld 0).i == 0) then
 (z0b.F [(r4.fld 1), (D.lst ((.int (-1)) :: ((.int 1000000) :: ((.int 1000001) :: ([] : List D)))))]).bind fun r5 =>
 ou 0 [(r5.fld 1), ((r3.fld 0).setFld 2 (r5.fld 0))]
 else
 if ((r4.fld 0).i == 1) then
 (z03.F [(r4.fld 1), (.int 5)]).bind fun r5 =>
 (z03.F [(r5.fld 1), (.int 3)]).bind fun r6 =>
 if (appOk 32 ((r3.fld 0).fld 1).l ((.pair (r5.fld 0) (.pair (r6.fld 0) (.pair (.int 0) (.pair (.int 0) .unit)))) :: ([] : List D))) then
 ou 0 [(r6.fld 1), ((r3.fld 0).setFld 1 (D.lst (((r3.fld 0).fld 1).l ++ ((.pair (r5.fld 0) (.pair (r6.fld 0) (.pair (.int 0) (.pair (.int 0) .unit)))) :: ([] : List D)))))]
 else none
 else
 ou 0 [(r4.fld 1), (r3.fld 0)]).bind fun o4 =>
 sel2 o4.1 (ou 0 [(.pair (gd o4.2 1) (.pair (gd o4.2 0) .unit))]) fun _ => none) fun _ => none) := by kernel_rfl
theorem q_spec_DrawTakeAsked (a0 : D) : z38.F [a0] = rn (
 (z39.F [(.pair a0 (.pair (.int 0) (.pair (.int 0) .unit)))]).bind fun r1 =>
 (z0l.F [(r1.fld 1)]).bind fun r2 =>
 ou 0 [(.pair (r1.fld 0) (.pair (r2.fld 0) .unit))]) := by kernel_rfl
theorem q_impl_isCounter (a0 : D) : z4W.F [a0] = rn (
 (z0Y.F [a0, (.int 0), (.int 1152921504606846976)]).bind fun r1 =>
 ou 0 [r1]) := by kernel_rfl
theorem q_impl_isApex (a0 : D) : z60.F [a0] = rn (
 ((z1X.F [a0]).bind fun r1 =>
 if r1.b then
 (z1F.F [a0, (D.str [42])]).bind fun r2 =>
 ou 0 [(.bool (!r2.b))]
 else
 ou 0 [(.bool false)]).bind fun o1 =>
 sel2 o1.1 (ou 0 [(gd o1.2 0)]) fun _ => none) := by kernel_rfl
theorem q_slices_Reverse_string_string (a0 : D) : z0t.F [a0] = rn (
 (z0c (fun l1 =>
 if (decide ((gd l1 1).i < (gd l1 2).i)) then
 if (inb (gd l1 2).i (gd l1 0).l.length) then
 if (inb (gd l1 1).i (gd l1 0).l.length) then
 ou 0 [(D.lst (((gd l1 0).l.set (gd l1 1).i.toNat (gd (gd l1 0).l (gd l1 2).i.toNat)).set (gd l1 2).i.toNat (gd (gd l1 0).l (gd l1 1).i.toNat))), (.int (IntKind.wrap .i64 ((gd l1 1).i + 1))), (.int (IntKind.wrap .i64 ((gd l1 2).i - 1)))]
 else none
 else none
 else
 ou 1 [(gd l1 0)]) [a0, (.int 0), (.int (IntKind.wrap .i64 ((a0.l.length : Int) - 1)))]).bind fun o1 =>
 sel2 o1.1 (ou 0 [(.pair .unit (.pair (gd o1.2 0) .unit))]) fun _ => none) := by kernel_rfl
theorem q_cmp_isNaN_string (a0 : D) : z2p.F [a0] = rn (
 ou 0 [(.bool (!(a0.s == a0.s)))]) := by kernel_rfl
theorem q_cmp_Compare_string (a0 a1 : D) : z34.F [a0, a1] = rn (
 (z2p.F [a0]).bind fun r2 =>
 (z2p.F [a1]).bind fun r3 =>
 if r2.b then
 if r3.b then
 ou 0 [(.int 0)]
 else
 ou 0 [(.int (-1))]
 else
 if r3.b then
 ou 0 [(.int 1)]
 else
 if (Op.bytesLess a0.s a1.s) then
 ou 0 [(.int (-1))]
 else
 if (!(Op.bytesLess a0.s a1.s || a0.s == a1.s)) then
 ou 0 [(.int 1)]
 else
 ou 0 [(.int 0)]) := by kernel_rfl
theorem q_slices_Compare_string_string (a0 a1 : D) : z1D.F [a0, a1] = rn (
 (z0c (fun l2 =>
 if (decide ((gd l2 0).i < (a0.l.length : Int))) then
 if (inb (gd l2 0).i a0.l.length) then
 if (decide ((gd l2 0).i ≥ (a1.l.length : Int))) then
 ou 1 [(.int 1)]
 else
 if (inb (gd l2 0).i a1.l.length) then
 (z34.F [(gd a0.l (gd l2 0).i.toNat), (gd a1.l (gd l2 0).i.toNat)]).bind fun r3 =>
 if (r3.i != 0) then
 ou 1 [r3]
 else
 ou 0 [(.int (IntKind.wrap .i64 ((gd l2 0).i + 1)))]
 else none
 else none
 else
 ou 2 []) [(.int 0)]).bind fun o2 =>
 sel2 o2.1 (ou 0 [(gd o2.2 0)]) fun n2 =>
 sel2 n2 (if (decide ((a0.l.length : Int) < (a1.l.length : Int))) then
 ou 0 [(.int (-1))]
 else
 ou 0 [(.int 0)]) fun _ => none) := by kernel_rfl
theorem q_impl_compareNames (a0 a1 : D) : z3O.F [a0, a1] = rn (
 (z1I.F [a0]).bind fun r2 =>
 (z1I.F [a1]).bind fun r3 =>
 (z0t.F [r2]).bind fun r4 =>
 (z0t.F [r3]).bind fun r5 =>
 (z1D.F [(r4.fld 1), (r5.fld 1)]).bind fun r6 =>
 ou 0 [r6]) := by kernel_rfl
theorem q_cmp_isNaN_int (a0 : D) : z3z.F [a0] = rn (
 ou 0 [(.bool (a0.i != a0.i))]) := by kernel_rfl
theorem q_cmp_Compare_int (a0 a1 : D) : z1S.F [a0, a1] = rn (
 (z3z.F [a0]).bind fun r2 =>
 (z3z.F [a1]).bind fun r3 =>
 if r2.b then
 if r3.b then
 ou 0 [(.int 0)]
 else
 ou 0 [(.int (-1))]
 else
 if r3.b then
 ou 0 [(.int 1)]
 else
 if (decide (a0.i < a1.i)) then
 ou 0 [(.int (-1))]
 else
 if (decide (a0.i > a1.i)) then
 ou 0 [(.int 1)]
 else
 ou 0 [(.int 0)]) := by kernel_rfl
theorem q_cmp_Or_int (a0 : D) : z4h.F [a0] = rn (
 (z0c (fun l1 =>
 if (decide ((gd l1 0).i < (a0.l.length : Int))) then
 if (inb (gd l1 0).i a0.l.length) then
 if ((gd a0.l (gd l1 0).i.toNat).i != 0) then
 ou 1 [(gd a0.l (gd l1 0).i.toNat)]
 else
 ou 0 [(.int (IntKind.wrap .i64 ((gd l1 0).i + 1)))]
 else none
 else
 ou 2 []) [(.int 0)]).bind fun o1 =>
 sel2 o1.1 (ou 0 [(gd o1.2 0)]) fun n2 =>
 sel2 n2 (ou 0 [(.int 0)]) fun _ => none) := by kernel_rfl
theorem q_impl_compareKeys (a0 a1 : D) : z3t.F [a0, a1] = rn (
 (z3O.F [(a0.fld 0), (a1.fld 0)]).bind fun r2 =>
 (z1S.F [(a0.fld 1), (a1.fld 1)]).bind fun r3 =>
 (z4h.F [(D.lst (r2 :: (r3 :: ([] : List D))))]).bind fun r4 =>
 ou 0 [r4]) := by kernel_rfl
theorem q_impl_dataBytes (a0 a1 : D) : z3d.F [a0, a1] = rn (
 (z1f.F [a0, a1]).bind fun r2 =>
 if (!(r2.fld 1).b) then
 ou 0 [(D.str [])]
 else
 ou 0 [(r2.fld 0)]) := by kernel_rfl
theorem q_impl_compareRecords (a0 a1 : D) : z15.F [a0, a1] = rn (
 (z3t.F [a0, a1]).bind fun r2 =>
 (z3d.F [(a0.fld 1), (a0.fld 3)]).bind fun r3 =>
 (z3d.F [(a1.fld 1), (a1.fld 3)]).bind fun r4 =>
 (z5K.F [r3, r4]).bind fun r5 =>
 (z1S.F [(a0.fld 2), (a1.fld 2)]).bind fun r6 =>
 (z4h.F [(D.lst (r2 :: (r5 :: (r6 :: ([] : List D)))))]).bind fun r7 =>
 ou 0 [r7]) := by kernel_rfl
theorem q_impl_areRising (a0 : D) : z4V.F [a0] = rn (
 (z0c (fun l1 =>
 if (decide ((gd l1 0).i < (a0.l.length : Int))) then
 if (inb (gd l1 0).i a0.l.length) then
 ((z19.F [(gd a0.l (gd l1 0).i.toNat)]).bind fun r2 =>
 if (!r2.b) then
 ou 0 [(.bool true)]
 else
 if (decide ((gd l1 0).i > 0)) then
 if (inb (IntKind.wrap .i64 ((gd l1 0).i - 1)) a0.l.length) then
 (z15.F [(gd a0.l (IntKind.wrap .i64 ((gd l1 0).i - 1)).toNat), (gd a0.l (gd l1 0).i.toNat)]).bind fun r3 =>
 ou 0 [(.bool (decide (r3.i ≥ 0)))]
 else none
 else
 ou 0 [(.bool false)]).bind fun o2 =>
 sel2 o2.1 (if (gd o2.2 0).b then
 ou 1 []
 else
 ou 0 [(.int (IntKind.wrap .i64 ((gd l1 0).i + 1)))]) fun _ => none
 else none
 else
 ou 2 []) [(.int 0)]).bind fun o1 =>
 sel2 o1.1 (ou 0 [(.bool false)]) fun n2 =>
 sel2 n2 (ou 0 [(.bool true)]) fun _ => none) := by kernel_rfl
theorem q_impl_isWhole (a0 a1 : D) : z5U.F [a0, a1] = rn (
 ((z60.F [a0]).bind fun r2 =>
 if r2.b then
 if (decide ((a1.l.length : Int) ≤ 40)) then
 (z4V.F [a1]).bind fun r3 =>
 ou 0 [r3]
 else
 ou 0 [(.bool false)]
 else
 ou 0 [(.bool false)]).bind fun o2 =>
 sel2 o2.1 (ou 0 [(gd o2.2 0)]) fun _ => none) := by kernel_rfl
theorem q_internal_stringslite_HasSuffix (a0 a1 : D) : z14.F [a0, a1] = rn (
 (if (decide ((a0.s.length : Int) ≥ (a1.s.length : Int))) then
 if (slOk (IntKind.wrap .i64 ((a0.s.length : Int) - (a1.s.length : Int))) (a0.s.length : Int) (a0.s.length : Int)) then
 ou 0 [(.bool (((a0.s.take (a0.s.length : Int).toNat).drop (IntKind.wrap .i64 ((a0.s.length : Int) - (a1.s.length : Int))).toNat) == a1.s))]
 else none
 else
 ou 0 [(.bool false)]).bind fun o2 =>
 sel2 o2.1 (ou 0 [(gd o2.2 0)]) fun _ => none) := by kernel_rfl
theorem q_strings_HasSuffix (a0 a1 : D) : z3U.F [a0, a1] = rn (
 (z14.F [a0, a1]).bind fun r2 =>
 ou 0 [r2]) := by kernel_rfl
theorem q_impl_isBelow (a0 a1 : D) : z3l.F [a0, a1] = rn (
 (if (a0.s == a1.s) then
 ou 0 [(.bool true)]
 else
 if (a1.s == ([] : List UInt8)) then
 ou 0 [(.bool true)]
 else
 if (catOk ([46] : List UInt8) a1.s) then
 (z3U.F [a0, (.str (([46] : List UInt8) ++ a1.s))]).bind fun r2 =>
 ou 0 [r2]
 else none).bind fun o2 =>
 sel2 o2.1 (ou 0 [(gd o2.2 0)]) fun _ => none) := by kernel_rfl
theorem q_impl_at (a0 a1 a2 : D) : z41.F [a0, a1, a2] = rn (
 (z0c (fun l3 =>
 if (decide ((gd l3 1).i < (a0.l.length : Int))) then
 (if (inb (gd l3 1).i a0.l.length) then
 (if (((gd a0.l (gd l3 1).i.toNat).fld 0).s == a1.s) then
 if (a2.i == 0) then
 ou 0 [(.bool true)]
 else
 ou 0 [(.bool (((gd a0.l (gd l3 1).i.toNat).fld 1).i == a2.i))]
 else
 ou 0 [(.bool false)]).bind fun o5 =>
 sel2 o5.1 (if (gd o5.2 0).b then
 if (appOk 48 (gd l3 0).l ((gd a0.l (gd l3 1).i.toNat) :: ([] : List D))) then
 ou 0 [(D.lst ((gd l3 0).l ++ ((gd a0.l (gd l3 1).i.toNat) :: ([] : List D))))]
 else none
 else
 ou 0 [(gd l3 0)]) fun _ => none
 else none).bind fun o5 =>
 sel2 o5.1 (ou 0 [(gd o5.2 0), (.int (IntKind.wrap .i64 ((gd l3 1).i + 1)))]) fun _ => none
 else
 ou 1 [(gd l3 0)]) [(D.lst []), (.int 0)]).bind fun o3 =>
 sel2 o3.1 (ou 0 [(gd o3.2 0)]) fun _ => none) := by kernel_rfl
theorem q_impl_breaks_1 (a0 a1 : D) : z4s.F [a0, a1] = rn (
 (if ((a0.fld 2).i != (a1.fld 2).i) then
 ou 0 [(.bool true)]
 else
 if ((a0.fld 3).s == (a1.fld 3).s) then
 ou 0 [(.bool (!(D.beq a0 a1)))]
 else
 ou 0 [(.bool false)]).bind fun o2 =>
 sel2 o2.1 (ou 0 [(gd o2.2 0)]) fun _ => none) := by kernel_rfl
theorem q_slices_IndexFunc_impl_Record_impl_Record__impl_breaks_1 (a0 a1 : D) : z0Q.F [a0, a1] = rn (
 (z0c (fun l2 =>
 if (decide ((gd l2 0).i < (a0.l.length : Int))) then
 if (inb (gd l2 0).i a0.l.length) then
 (z4s.F [(gd a0.l (gd l2 0).i.toNat), (a1.fld 0)]).bind fun r3 =>
 if r3.b then
 ou 1 [(gd l2 0)]
 else
 ou 0 [(.int (IntKind.wrap .i64 ((gd l2 0).i + 1)))]
 else none
 else
 ou 2 []) [(.int 0)]).bind fun o2 =>
 sel2 o2.1 (ou 0 [(gd o2.2 0)]) fun n2 =>
 sel2 n2 (ou 0 [(.int (-1))]) fun _ => none) := by kernel_rfl
theorem q_slices_ContainsFunc_impl_Record_impl_Record__impl_breaks_1 (a0 a1 : D) : z0I.F [a0, a1] = rn (
 (z0Q.F [a0, a1]).bind fun r2 =>
 ou 0 [(.bool (decide (r2.i ≥ 0)))]) := by kernel_rfl
theorem q_impl_breaks_2 (a0 a1 a2 : D) : z4t.F [a0, a1, a2] = rn (
 (if ((a0.fld 1).i == 2) then
 if (!((a0.fld 0).s == a1.s)) then
 (z3l.F [(a2.fld 0), (a0.fld 0)]).bind fun r3 =>
 ou 0 [r3]
 else
 ou 0 [(.bool false)]
 else
 ou 0 [(.bool false)]).bind fun o3 =>
 sel2 o3.1 ((if (gd o3.2 0).b then
 if ((a2.fld 1).i != 1) then
 if ((a2.fld 1).i == 2) then
 ou 0 [(.bool (!((a2.fld 0).s == (a0.fld 0).s)))]
 else
 ou 0 [(.bool (!false))]
 else
 ou 0 [(.bool false)]
 else
 ou 0 [(.bool false)]).bind fun o4 =>
 sel2 o4.1 (ou 0 [(gd o4.2 0)]) fun _ => none) fun _ => none) := by kernel_rfl
theorem q_slices_IndexFunc_impl_Record_impl_Record__impl_breaks_2 (a0 a1 : D) : z0R.F [a0, a1] = rn (
 (z0c (fun l2 =>
 if (decide ((gd l2 0).i < (a0.l.length : Int))) then
 if (inb (gd l2 0).i a0.l.length) then
 (z4t.F [(gd a0.l (gd l2 0).i.toNat), (a1.fld 0), (a1.fld 1)]).bind fun r3 =>
 if r3.b then
 ou 1 [(gd l2 0)]
 else
 ou 0 [(.int (IntKind.wrap .i64 ((gd l2 0).i + 1)))]
 else none
 else
 ou 2 []) [(.int 0)]).bind fun o2 =>
 sel2 o2.1 (ou 0 [(gd o2.2 0)]) fun n2 =>
 sel2 n2 (ou 0 [(.int (-1))]) fun _ => none) := by kernel_rfl
theorem q_slices_ContainsFunc_impl_Record_impl_Record__impl_breaks_2 (a0 a1 : D) : z0J.F [a0, a1] = rn (
 (z0R.F [a0, a1]).bind fun r2 =>
 ou 0 [(.bool (decide (r2.i ≥ 0)))]) := by kernel_rfl
theorem q_impl_breaks (a0 a1 a2 a3 : D) : z5z.F [a0, a1, a2, a3] = rn (
 if (a3.i == 1) then
 (z3l.F [(a2.fld 0), a0]).bind fun r4 =>
 ou 0 [(.bool (!r4.b))]
 else
 if (a3.i == 2) then
 (if ((a2.fld 1).i == 6) then
 ou 0 [(.bool (!((a2.fld 0).s == a0.s)))]
 else
 ou 0 [(.bool false)]).bind fun o4 =>
 sel2 o4.1 (ou 0 [(gd o4.2 0)]) fun _ => none
 else
 if (a3.i == 3) then
 (z41.F [a1, (a2.fld 0), (a2.fld 1)]).bind fun r4 =>
 (z0I.F [r4, (.pair a2 .unit)]).bind fun r5 =>
 ou 0 [r5]
 else
 if (a3.i == 4) then
 (if ((a2.fld 1).i == 5) then
 (z41.F [a1, (a2.fld 0), (.int 0)]).bind fun r4 =>
 ou 0 [(.bool (decide ((r4.l.length : Int) > 1)))]
 else
 ou 0 [(.bool false)]).bind fun o4 =>
 sel2 o4.1 (ou 0 [(gd o4.2 0)]) fun _ => none
 else
 if (a3.i == 5) then
 (if ((a2.fld 1).i == 5) then
 ou 0 [(.bool ((a2.fld 0).s == a0.s))]
 else
 ou 0 [(.bool false)]).bind fun o4 =>
 sel2 o4.1 (ou 0 [(gd o4.2 0)]) fun _ => none
 else
 (z0J.F [a1, (.pair a0 (.pair a2 .unit))]).bind fun r4 =>
 ou 0 [r4]) := by kernel_rfl
theorem q_impl_RuleOf_1 (a0 a1 a2 a3 : D) : z4r.F [a0, a1, a2, a3] = rn (
 (z5z.F [a1, a2, a0, a3]).bind fun r4 =>
 ou 0 [r4]) := by kernel_rfl
theorem q_slices_IndexFunc_impl_Record_impl_Record__impl_RuleOf_1 (a0 a1 : D) : z0P.F [a0, a1] = rn (
 (z0c (fun l2 =>
 if (decide ((gd l2 0).i < (a0.l.length : Int))) then
 if (inb (gd l2 0).i a0.l.length) then
 (z4r.F [(gd a0.l (gd l2 0).i.toNat), (a1.fld 0), (a1.fld 1), (a1.fld 2)]).bind fun r3 =>
 if r3.b then
 ou 1 [(gd l2 0)]
 else
 ou 0 [(.int (IntKind.wrap .i64 ((gd l2 0).i + 1)))]
 else none
 else
 ou 2 []) [(.int 0)]).bind fun o2 =>
 sel2 o2.1 (ou 0 [(gd o2.2 0)]) fun n2 =>
 sel2 n2 (ou 0 [(.int (-1))]) fun _ => none) := by kernel_rfl
theorem q_slices_ContainsFunc_impl_Record_impl_Record__impl_RuleOf_1 (a0 a1 : D) : z0H.F [a0, a1] = rn (
 (z0P.F [a0, a1]).bind fun r2 =>
 ou 0 [(.bool (decide (r2.i ≥ 0)))]) := by kernel_rfl
theorem q_impl_RuleOf (a0 a1 : D) : z48.F [a0, a1] = rn (
 (z5U.F [a0, a1]).bind fun r2 =>
 if (!r2.b) then
 ou 0 [(.int 9)]
 else
 (z0c (fun l3 =>
 if (decide ((gd l3 0).i ≤ 6)) then
 ((z0H.F [a1, (.pair a0 (.pair a1 (.pair (gd l3 0) .unit)))]).bind fun r4 =>
 if r4.b then
 ou 0 [(.bool true)]
 else
 if ((gd l3 0).i == 2) then
 (z41.F [a1, a0, (.int 6)]).bind fun r5 =>
 ou 0 [(.bool ((r5.l.length : Int) != 1))]
 else
 ou 0 [(.bool false)]).bind fun o4 =>
 sel2 o4.1 (if (gd o4.2 0).b then
 ou 1 [(gd l3 0)]
 else
 ou 0 [(.int (IntKind.wrap .i64 ((gd l3 0).i + 1)))]) fun _ => none
 else
 ou 2 []) [(.int 1)]).bind fun o3 =>
 sel2 o3.1 (ou 0 [(gd o3.2 0)]) fun n4 =>
 sel2 n4 (ou 0 [(.int 0)]) fun _ => none) := by kernel_rfl
theorem q_impl_serialText (a0 : D) : z2X.F [a0] = rn (
 if (4294967296 != 0) then
 (z0n.F [(.int (a0.i.tmod 4294967296))]).bind fun r1 =>
 ou 0 [r1]
 else none) := by kernel_rfl
theorem q_impl_GoodZone (a0 : D) : z3C.F [a0] = rn (
 ((z4W.F [(a0.fld 1)]).bind fun r1 =>
 if r1.b then
 (z48.F [(a0.fld 0), (a0.fld 2)]).bind fun r2 =>
 if (r2.i == 0) then
 (z41.F [(a0.fld 2), (a0.fld 0), (.int 6)]).bind fun r3 =>
 if (inb 0 r3.l.length) then
 (z2X.F [(a0.fld 1)]).bind fun r4 =>
 ou 0 [(.bool (((gd r3.l 0).fld 3).s == r4.s))]
 else none
 else
 ou 0 [(.bool false)]
 else
 ou 0 [(.bool false)]).bind fun o1 =>
 sel2 o1.1 (ou 0 [(gd o1.2 0)]) fun _ => none) := by kernel_rfl
theorem q_impl_isSerial (a0 : D) : z4u.F [a0] = rn (
 (z0Y.F [a0, (.int 0), (.int 4294967295)]).bind fun r1 =>
 ou 0 [r1]) := by kernel_rfl
theorem q_impl_GoodControl (a0 : D) : z0s.F [a0] = rn (
 ((z3C.F [(a0.fld 0)]).bind fun r1 =>
 if (!r1.b) then
 ou 0 [(.bool true)]
 else
 (z0Y.F [(a0.fld 2), (.int 0), (.int 1000000)]).bind fun r2 =>
 if (!r2.b) then
 ou 0 [(.bool true)]
 else
 ou 0 [(.bool (decide (((a0.fld 1).l.length : Int) > 8)))]).bind fun o1 =>
 sel2 o1.1 (if (gd o1.2 0).b then
 ou 0 [(.bool false)]
 else
 (z0c (fun l2 =>
 if (decide ((gd l2 0).i < ((a0.fld 1).l.length : Int))) then
 if (inb (gd l2 0).i (a0.fld 1).l.length) then
 ((z1Y.F [((gd (a0.fld 1).l (gd l2 0).i.toNat).fld 0), ((gd (a0.fld 1).l (gd l2 0).i.toNat).fld 1)]).bind fun r3 =>
 if (!r3.b) then
 ou 0 [(.bool true)]
 else
 (z0Y.F [((gd (a0.fld 1).l (gd l2 0).i.toNat).fld 2), (.int 0), (.int 4)]).bind fun r4 =>
 if (!r4.b) then
 ou 0 [(.bool true)]
 else
 (z4u.F [((gd (a0.fld 1).l (gd l2 0).i.toNat).fld 3)]).bind fun r5 =>
 if (!r5.b) then
 ou 0 [(.bool true)]
 else
 if (decide ((gd l2 0).i > 0)) then
 if (inb (IntKind.wrap .i64 ((gd l2 0).i - 1)) (a0.fld 1).l.length) then
 ou 0 [(.bool (decide (((gd (a0.fld 1).l (gd l2 0).i.toNat).fld 0).i ≤ ((gd (a0.fld 1).l (IntKind.wrap .i64 ((gd l2 0).i - 1)).toNat).fld 0).i)))]
 else none
 else
 ou 0 [(.bool false)]).bind fun o3 =>
 sel2 o3.1 (if (gd o3.2 0).b then
 ou 1 [(.bool false)]
 else
 ou 0 [(.int (IntKind.wrap .i64 ((gd l2 0).i + 1)))]) fun _ => none
 else none
 else
 ou 2 []) [(.int 0)]).bind fun o2 =>
 sel2 o2.1 (ou 0 [(gd o2.2 0)]) fun n6 =>
 sel2 n6 (ou 0 [(.bool true)]) fun _ => none) fun _ => none) := by kernel_rfl
theorem q_slices_Clone_impl_Record_impl_Record (a0 : D) : z0F.F [a0] = rn (
 two a0.l.isEmpty
 (ou 0 [(D.lst [])])
 (if (appOk 48 ([] : List D) a0.l) then
 ou 0 [(D.lst (([] : List D) ++ a0.l))]
 else none)) := by kernel_rfl
theorem q_impl_ownZone (a0 : D) : z5V.F [a0] = rn (
 (z0F.F [(a0.fld 2)]).bind fun r1 =>
 ou 0 [(a0.setFld 2 r1)]) := by kernel_rfl
theorem q_slices_Clone_impl_Done_impl_Done (a0 : D) : z0y.F [a0] = rn (
 two a0.l.isEmpty
 (ou 0 [(D.lst [])])
 (if (appOk 32 ([] : List D) a0.l) then
 ou 0 [(D.lst (([] : List D) ++ a0.l))]
 else none)) := by kernel_rfl
theorem q_impl_ownControl (a0 : D) : z49.F [a0] = rn (
 (z5V.F [(a0.fld 0)]).bind fun r1 =>
 (z0y.F [(a0.fld 1)]).bind fun r2 =>
 ou 0 [(.pair r1 (.pair r2 (.pair (a0.fld 2) .unit)))]) := by kernel_rfl
theorem q_impl_Control_find_1 (a0 a1 : D) : z2A.F [a0, a1] = rn (
 (z1S.F [(a0.fld 0), a1]).bind fun r2 =>
 ou 0 [r2]) := by kernel_rfl
theorem q_slices_BinarySearchFunc_impl_Done_impl_Done_int__impl_Control_find_1 (a0 a1 a2 : D) : z0D.F [a0, a1, a2] = rn (
 (z0c (fun l3 =>
 if (decide ((gd l3 0).i < (gd l3 1).i)) then
 if (decide (0 ≤ 1)) then
 if (inb (IntKind.wrap .i64 ((IntKind.wrap .u64 (IntKind.wrap .i64 ((gd l3 0).i + (gd l3 1).i))).fdiv (2 ^ min 1 (IntKind.bits .u64)))) a0.l.length) then
 (z2A.F [(gd a0.l (IntKind.wrap .i64 ((IntKind.wrap .u64 (IntKind.wrap .i64 ((gd l3 0).i + (gd l3 1).i))).fdiv (2 ^ min 1 (IntKind.bits .u64)))).toNat), a1]).bind fun r5 =>
 if (decide (r5.i < 0)) then
 ou 0 [(.int (IntKind.wrap .i64 ((IntKind.wrap .i64 ((IntKind.wrap .u64 (IntKind.wrap .i64 ((gd l3 0).i + (gd l3 1).i))).fdiv (2 ^ min 1 (IntKind.bits .u64)))) + 1))), (gd l3 1)]
 else
 ou 0 [(gd l3 0), (.int (IntKind.wrap .i64 ((IntKind.wrap .u64 (IntKind.wrap .i64 ((gd l3 0).i + (gd l3 1).i))).fdiv (2 ^ min 1 (IntKind.bits .u64)))))]
 else none
 else none
 else
 ou 1 [(gd l3 0)]) [(.int 0), (.int (a0.l.length : Int))]).bind fun o3 =>
 sel2 o3.1 ((if (decide ((gd o3.2 0).i < (a0.l.length : Int))) then
 if (inb (gd o3.2 0).i a0.l.length) then
 (z2A.F [(gd a0.l (gd o3.2 0).i.toNat), a1]).bind fun r4 =>
 ou 0 [(gd o3.2 0), (.bool (r4.i == 0))]
 else none
 else
 ou 0 [(gd o3.2 0), (.bool false)]).bind fun o4 =>
 sel2 o4.1 (ou 0 [(.pair (gd o4.2 0) (.pair (gd o4.2 1) .unit))]) fun _ => none) fun _ => none) := by kernel_rfl
theorem q_impl_Control_find (a0 a1 : D) : z1u.F [a0, a1] = rn (
 (z0D.F [(a0.fld 1), a1, .unit]).bind fun r2 =>
 ou 0 [(.pair (r2.fld 0) (.pair (r2.fld 1) .unit))]) := by kernel_rfl
theorem q_impl_misses (a0 a1 : D) : z61.F [a0, a1] = rn (
 (z41.F [(a0.fld 2), ((a1.fld 1).fld 0), ((a1.fld 1).fld 1)]).bind fun r2 =>
 (if ((a1.fld 0).i == 3) then
 if (!(decide ((r2.l.length : Int) > 0))) then
 ou 0 [(.bool true)]
 else
 if ((a1.fld 0).i == 4) then
 ou 0 [(.bool (decide ((r2.l.length : Int) > 0)))]
 else
 ou 0 [(.bool false)]
 else
 if ((a1.fld 0).i == 4) then
 ou 0 [(.bool (decide ((r2.l.length : Int) > 0)))]
 else
 ou 0 [(.bool false)]).bind fun o3 =>
 sel2 o3.1 (ou 0 [(gd o3.2 0)]) fun _ => none) := by kernel_rfl
theorem q_impl_apply_1 (a0 a1 : D) : z5R.F [a0, a1] = rn (
 (z61.F [a1, a0]).bind fun r2 =>
 ou 0 [r2]) := by kernel_rfl
theorem q_slices_IndexFunc_impl_Change_impl_Change__impl_apply_1 (a0 a1 : D) : z0S.F [a0, a1] = rn (
 (z0c (fun l2 =>
 if (decide ((gd l2 0).i < (a0.l.length : Int))) then
 if (inb (gd l2 0).i a0.l.length) then
 (z5R.F [(gd a0.l (gd l2 0).i.toNat), (a1.fld 0)]).bind fun r3 =>
 if r3.b then
 ou 1 [(gd l2 0)]
 else
 ou 0 [(.int (IntKind.wrap .i64 ((gd l2 0).i + 1)))]
 else none
 else
 ou 2 []) [(.int 0)]).bind fun o2 =>
 sel2 o2.1 (ou 0 [(gd o2.2 0)]) fun n2 =>
 sel2 n2 (ou 0 [(.int (-1))]) fun _ => none) := by kernel_rfl
theorem q_slices_ContainsFunc_impl_Change_impl_Change__impl_apply_1 (a0 a1 : D) : z0K.F [a0, a1] = rn (
 (z0S.F [a0, a1]).bind fun r2 =>
 ou 0 [(.bool (decide (r2.i ≥ 0)))]) := by kernel_rfl
theorem q_impl_changed_1 (a0 a1 : D) : z2k.F [a0, a1] = rn (
 (if ((a0.fld 0).s == (a1.fld 0).s) then
 if ((a0.fld 1).i == (a1.fld 1).i) then
 ou 0 [(.bool ((a0.fld 3).s == (a1.fld 3).s))]
 else
 ou 0 [(.bool false)]
 else
 ou 0 [(.bool false)]).bind fun o2 =>
 sel2 o2.1 (ou 0 [(gd o2.2 0)]) fun _ => none) := by kernel_rfl
theorem q_slices_IndexFunc_impl_Record_impl_Record__impl_changed_1 (a0 a1 : D) : z0O.F [a0, a1] = rn (
 (z0c (fun l2 =>
 if (decide ((gd l2 0).i < (a0.l.length : Int))) then
 if (inb (gd l2 0).i a0.l.length) then
 (z2k.F [(gd a0.l (gd l2 0).i.toNat), (a1.fld 0)]).bind fun r3 =>
 if r3.b then
 ou 1 [(gd l2 0)]
 else
 ou 0 [(.int (IntKind.wrap .i64 ((gd l2 0).i + 1)))]
 else none
 else
 ou 2 []) [(.int 0)]).bind fun o2 =>
 sel2 o2.1 (ou 0 [(gd o2.2 0)]) fun n2 =>
 sel2 n2 (ou 0 [(.int (-1))]) fun _ => none) := by kernel_rfl
theorem q_slices_DeleteFunc_impl_Record_impl_Record__impl_changed_1 (a0 a1 : D) : z0L.F [a0, a1] = rn (
 (z0O.F [a0, a1]).bind fun r2 =>
 if (r2.i == (-1)) then
 ou 0 [a0]
 else
 (z0c (fun l3 =>
 if (decide ((gd l3 2).i < ((gd l3 0).l.length : Int))) then
 (if (inb (gd l3 2).i (gd l3 0).l.length) then
 (z2k.F [(gd (gd l3 0).l (gd l3 2).i.toNat), (a1.fld 0)]).bind fun r6 =>
 if (!r6.b) then
 if (inb (gd l3 1).i (gd l3 0).l.length) then
 ou 0 [(D.lst ((gd l3 0).l.set (gd l3 1).i.toNat (gd (gd l3 0).l (gd l3 2).i.toNat))), (.int (IntKind.wrap .i64 ((gd l3 1).i + 1)))]
 else none
 else
 ou 0 [(gd l3 0), (gd l3 1)]
 else none).bind fun o6 =>
 sel2 o6.1 (ou 0 [(gd o6.2 0), (gd o6.2 1), (.int (IntKind.wrap .i64 ((gd l3 2).i + 1)))]) fun _ => none
 else
 ou 1 [(gd l3 0), (gd l3 1)]) [a0, r2, (.int (IntKind.wrap .i64 (r2.i + 1)))]).bind fun o3 =>
 sel2 o3.1 (if (slOk (gd o3.2 1).i ((gd o3.2 0).l.length : Int) ((gd o3.2 0).l.length : Int)) then
 if (winOk (gd o3.2 1).i.toNat ((((gd o3.2 0).l.length : Int).toNat - (gd o3.2 1).i.toNat : Nat) : Int).toNat (gd o3.2 0).l) then
 if (slOk 0 (gd o3.2 1).i ((((((gd o3.2 0).l.drop 0).take (gd o3.2 1).i.toNat) ++ (List.replicate ((((gd o3.2 0).l.length : Int).toNat - (gd o3.2 1).i.toNat : Nat) : Int).toNat ((.pair (.str []) (.pair (.int 0) (.pair (.int 0) (.pair (.str []) .unit)))) : D))) ++ (((((gd o3.2 0).l.drop (gd o3.2 1).i.toNat).take ((gd o3.2 0).l.length : Int).toNat).drop ((((gd o3.2 0).l.length : Int).toNat - (gd o3.2 1).i.toNat : Nat) : Int).toNat).take ((gd o3.2 0).l.length : Int).toNat)).length : Int)) then
 if (winOk 0 (((gd o3.2 1).i.toNat - 0 : Nat) : Int).toNat (((((gd o3.2 0).l.drop 0).take (gd o3.2 1).i.toNat) ++ (List.replicate ((((gd o3.2 0).l.length : Int).toNat - (gd o3.2 1).i.toNat : Nat) : Int).toNat ((.pair (.str []) (.pair (.int 0) (.pair (.int 0) (.pair (.str []) .unit)))) : D))) ++ (((((gd o3.2 0).l.drop (gd o3.2 1).i.toNat).take ((gd o3.2 0).l.length : Int).toNat).drop ((((gd o3.2 0).l.length : Int).toNat - (gd o3.2 1).i.toNat : Nat) : Int).toNat).take ((gd o3.2 0).l.length : Int).toNat))) then
 ou 0 [(D.lst (((((((gd o3.2 0).l.drop 0).take (gd o3.2 1).i.toNat) ++ (List.replicate ((((gd o3.2 0).l.length : Int).toNat - (gd o3.2 1).i.toNat : Nat) : Int).toNat ((.pair (.str []) (.pair (.int 0) (.pair (.int 0) (.pair (.str []) .unit)))) : D))) ++ (((((gd o3.2 0).l.drop (gd o3.2 1).i.toNat).take ((gd o3.2 0).l.length : Int).toNat).drop ((((gd o3.2 0).l.length : Int).toNat - (gd o3.2 1).i.toNat : Nat) : Int).toNat).take ((gd o3.2 0).l.length : Int).toNat)).drop 0).take (((gd o3.2 1).i.toNat - 0 : Nat) : Int).toNat))]
 else none
 else none
 else none
 else none) fun _ => none) := by kernel_rfl
theorem q_slices_BinarySearchFunc_impl_Record_impl_Record_impl_Record__impl_compareRecords (a0 a1 a2 : D) : z06.F [a0, a1, a2] = rn (
 (z0c (fun l3 =>
 if (decide ((gd l3 0).i < (gd l3 1).i)) then
 if (decide (0 ≤ 1)) then
 if (inb (IntKind.wrap .i64 ((IntKind.wrap .u64 (IntKind.wrap .i64 ((gd l3 0).i + (gd l3 1).i))).fdiv (2 ^ min 1 (IntKind.bits .u64)))) a0.l.length) then
 (z15.F [(gd a0.l (IntKind.wrap .i64 ((IntKind.wrap .u64 (IntKind.wrap .i64 ((gd l3 0).i + (gd l3 1).i))).fdiv (2 ^ min 1 (IntKind.bits .u64)))).toNat), a1]).bind fun r5 =>
 if (decide (r5.i < 0)) then
 ou 0 [(.int (IntKind.wrap .i64 ((IntKind.wrap .i64 ((IntKind.wrap .u64 (IntKind.wrap .i64 ((gd l3 0).i + (gd l3 1).i))).fdiv (2 ^ min 1 (IntKind.bits .u64)))) + 1))), (gd l3 1)]
 else
 ou 0 [(gd l3 0), (.int (IntKind.wrap .i64 ((IntKind.wrap .u64 (IntKind.wrap .i64 ((gd l3 0).i + (gd l3 1).i))).fdiv (2 ^ min 1 (IntKind.bits .u64)))))]
 else none
 else none
 else
 ou 1 [(gd l3 0)]) [(.int 0), (.int (a0.l.length : Int))]).bind fun o3 =>
 sel2 o3.1 ((if (decide ((gd o3.2 0).i < (a0.l.length : Int))) then
 if (inb (gd o3.2 0).i a0.l.length) then
 (z15.F [(gd a0.l (gd o3.2 0).i.toNat), a1]).bind fun r4 =>
 ou 0 [(gd o3.2 0), (.bool (r4.i == 0))]
 else none
 else
 ou 0 [(gd o3.2 0), (.bool false)]).bind fun o4 =>
 sel2 o4.1 (ou 0 [(.pair (gd o4.2 0) (.pair (gd o4.2 1) .unit))]) fun _ => none) fun _ => none) := by kernel_rfl
theorem q_impl_put (a0 a1 : D) : z8T.F [a0, a1] = rn (
 (z06.F [a0, a1, .unit]).bind fun r2 =>
 if (r2.fld 1).b then
 ou 0 [a0]
 else
 (z16.F [a0, (r2.fld 0), (D.lst (a1 :: ([] : List D)))]).bind fun r3 =>
 ou 0 [r3]) := by kernel_rfl
theorem q_impl_changed (a0 a1 : D) : z5S.F [a0, a1] = rn (
 (z0F.F [a0]).bind fun r2 =>
 (z0c (fun l3 =>
 if (decide ((gd l3 1).i < (a1.l.length : Int))) then
 (if (inb (gd l3 1).i a1.l.length) then
 (if (((gd a1.l (gd l3 1).i.toNat).fld 0).i != 1) then
 ou 0 [(.bool (((gd a1.l (gd l3 1).i.toNat).fld 0).i != 2))]
 else
 ou 0 [(.bool false)]).bind fun o5 =>
 sel2 o5.1 (if (gd o5.2 0).b then
 ou 0 [(gd l3 0)]
 else
 (z0L.F [(gd l3 0), (.pair ((gd a1.l (gd l3 1).i.toNat).fld 1) .unit)]).bind fun r6 =>
 if (((gd a1.l (gd l3 1).i.toNat).fld 0).i == 1) then
 (z8T.F [r6, ((gd a1.l (gd l3 1).i.toNat).fld 1)]).bind fun r7 =>
 ou 0 [r7]
 else
 ou 0 [r6]) fun _ => none
 else none).bind fun o5 =>
 sel2 o5.1 (ou 0 [(gd o5.2 0), (.int (IntKind.wrap .i64 ((gd l3 1).i + 1)))]) fun _ => none
 else
 ou 1 [(gd l3 0)]) [r2, (.int 0)]).bind fun o3 =>
 sel2 o3.1 (ou 0 [(gd o3.2 0)]) fun _ => none) := by kernel_rfl
theorem q_impl_counted (a0 a1 : D) : z5T.F [a0, a1] = rn (
 (z0F.F [a0]).bind fun r2 =>
 (z0c (fun l3 =>
 if (decide ((gd l3 1).i < (r2.l.length : Int))) then
 (if (inb (gd l3 1).i (gd l3 0).l.length) then
 if (((gd (gd l3 0).l (gd l3 1).i.toNat).fld 1).i == 6) then
 (z2X.F [a1]).bind fun r5 =>
 ou 0 [(D.lst (upd (gd l3 0).l (gd l3 1).i.toNat 3 r5))]
 else
 ou 0 [(gd l3 0)]
 else none).bind fun o5 =>
 sel2 o5.1 (ou 0 [(gd o5.2 0), (.int (IntKind.wrap .i64 ((gd l3 1).i + 1)))]) fun _ => none
 else
 ou 1 [(gd l3 0)]) [r2, (.int 0)]).bind fun o3 =>
 sel2 o3.1 (ou 0 [(gd o3.2 0)]) fun _ => none) := by kernel_rfl
theorem q_impl_apply (a0 a1 : D) : z6R.F [a0, a1] = rn (
 (z1w.F [a1]).bind fun r2 =>
 if (!r2.b) then
 ou 0 [(.pair (.pair (.str []) (.pair (.int 0) (.pair (D.lst []) .unit))) (.pair (.int 1) .unit))]
 else
 (z0K.F [a1, (.pair a0 .unit)]).bind fun r3 =>
 if r3.b then
 ou 0 [(.pair (.pair (.str []) (.pair (.int 0) (.pair (D.lst []) .unit))) (.pair (.int 2) .unit))]
 else
 (z5S.F [(a0.fld 2), a1]).bind fun r4 =>
 (if (decide ((r4.l.length : Int) > 40)) then
 ou 0 [(.bool true)]
 else
 ou 0 [(.bool ((a0.fld 1).i == 1152921504606846976))]).bind fun o5 =>
 sel2 o5.1 (if (gd o5.2 0).b then
 ou 0 [(.pair (.pair (.str []) (.pair (.int 0) (.pair (D.lst []) .unit))) (.pair (.int 4) .unit))]
 else
 (z48.F [(a0.fld 0), r4]).bind fun r6 =>
 if (r6.i != 0) then
 ou 0 [(.pair (.pair (.str []) (.pair (.int 0) (.pair (D.lst []) .unit))) (.pair (.int 3) .unit))]
 else
 (z5T.F [r4, (.int (IntKind.wrap .i64 ((a0.fld 1).i + 1)))]).bind fun r7 =>
 ou 0 [(.pair (.pair (a0.fld 0) (.pair (.int (IntKind.wrap .i64 ((a0.fld 1).i + 1))) (.pair r7 .unit))) (.pair (.int 0) .unit))]) fun _ => none) := by kernel_rfl
theorem q_impl_Control_take (a0 a1 : D) : z1v.F [a0, a1] = rn (
 (z1Y.F [(a1.fld 0), (a1.fld 1)]).bind fun r2 =>
 if (!r2.b) then
 ou 0 [(.pair (.pair (.pair (.str []) (.pair (.int 0) (.pair (D.lst []) .unit))) (.pair (D.lst []) (.pair (.int 0) .unit))) (.pair (.pair (.int 0) (.pair (.int 0) (.pair (.int 0) (.pair (.int 0) .unit)))) (.pair (.bool false) .unit)))]
 else
 (z49.F [a0]).bind fun r3 =>
 (z1u.F [a0, (a1.fld 0)]).bind fun r4 =>
 ((if (r4.fld 1).b then
 if (inb (r4.fld 0).i (a0.fld 1).l.length) then
 ou 0 [(.bool (((gd (a0.fld 1).l (r4.fld 0).i.toNat).fld 1).i == (a1.fld 1).i))]
 else none
 else
 ou 0 [(.bool false)]).bind fun o5 =>
 sel2 o5.1 (if (gd o5.2 0).b then
 if (inb (r4.fld 0).i (a0.fld 1).l.length) then
 ou 1 [r3, (gd (a0.fld 1).l (r4.fld 0).i.toNat), (.bool true)]
 else none
 else
 ((if (r4.fld 1).b then
 if (inb (r4.fld 0).i (a0.fld 1).l.length) then
 ou 0 [(.bool (decide (((gd (a0.fld 1).l (r4.fld 0).i.toNat).fld 1).i > (a1.fld 1).i)))]
 else none
 else
 ou 0 [(.bool false)]).bind fun o6 =>
 sel2 o6.1 (if (gd o6.2 0).b then
 ou 0 [(gd o6.2 0)]
 else
 (if (!(r4.fld 1).b) then
 ou 0 [(.bool (((a0.fld 1).l.length : Int) == 8))]
 else
 ou 0 [(.bool false)]).bind fun o7 =>
 sel2 o7.1 (if (gd o7.2 0).b then
 ou 0 [(gd o7.2 0)]
 else
 ou 0 [(.bool ((a0.fld 2).i == 1000000))]) fun _ => none) fun _ => none).bind fun o6 =>
 sel2 o6.1 (if (gd o6.2 0).b then
 ou 1 [(.pair (.pair (.str []) (.pair (.int 0) (.pair (D.lst []) .unit))) (.pair (D.lst []) (.pair (.int 0) .unit))), (.pair (.int 0) (.pair (.int 0) (.pair (.int 0) (.pair (.int 0) .unit)))), (.bool false)]
 else
 if (!(r4.fld 1).b) then
 (z1R.F [(r3.fld 1), (r4.fld 0), (D.lst ((.pair (.int 0) (.pair (.int 0) (.pair (.int 0) (.pair (.int 0) .unit)))) :: ([] : List D)))]).bind fun r7 =>
 ou 0 [(r3.setFld 1 r7)]
 else
 ou 0 [r3]) fun _ => none) fun _ => none).bind fun o5 =>
 sel2 o5.1 ((z6R.F [((gd o5.2 0).fld 0), (a1.fld 2)]).bind fun r6 =>
 (if ((r6.fld 1).i == 0) then
 ou 0 [((gd o5.2 0).setFld 0 (r6.fld 0))]
 else
 ou 0 [(gd o5.2 0)]).bind fun o7 =>
 sel2 o7.1 (if (4294967296 != 0) then
 if (inb (r4.fld 0).i ((gd o7.2 0).fld 1).l.length) then
 ou 0 [(.pair (((gd o7.2 0).setFld 2 (.int (IntKind.wrap .i64 (((gd o7.2 0).fld 2).i + 1)))).setFld 1 (D.lst (((gd o7.2 0).fld 1).l.set (r4.fld 0).i.toNat (.pair (a1.fld 0) (.pair (a1.fld 1) (.pair (r6.fld 1) (.pair (.int ((((gd o7.2 0).fld 0).fld 1).i.tmod 4294967296)) .unit))))))) (.pair (.pair (a1.fld 0) (.pair (a1.fld 1) (.pair (r6.fld 1) (.pair (.int ((((gd o7.2 0).fld 0).fld 1).i.tmod 4294967296)) .unit)))) (.pair (.bool true) .unit)))]
 else none
 else none) fun _ => none) fun n4 =>
 sel2 n4 (ou 0 [(.pair (gd o5.2 0) (.pair (gd o5.2 1) (.pair (gd o5.2 2) .unit)))]) fun _ => none) := by kernel_rfl
theorem q_impl_TakeAsked (a0 a1 : D) : z3b.F [a0, a1] = rn (
 (z0s.F [a0]).bind fun r2 =>
 if (!r2.b) then
 ou 0 [(.pair (.pair (.pair (.str []) (.pair (.int 0) (.pair (D.lst []) .unit))) (.pair (D.lst []) (.pair (.int 0) .unit))) (.pair (.pair (.int 0) (.pair (.int 0) (.pair (.int 0) (.pair (.int 0) .unit)))) (.pair (.bool false) .unit)))]
 else
 (z1v.F [a0, a1]).bind fun r3 =>
 ou 0 [(.pair (r3.fld 0) (.pair (r3.fld 1) (.pair (r3.fld 2) .unit)))]) := by kernel_rfl
theorem q_spec_l5Serial (a0 : D) : z4w.F [a0] = rn (
 (z0X.F [a0, (.int 0), (.int 4294967295)]).bind fun r1 =>
 ou 0 [r1]) := by kernel_rfl
theorem q_spec_GoodControl (a0 : D) : z2J.F [a0] = rn (
 (z0c (fun l1 =>
 if (decide ((gd l1 0).i < ((a0.fld 1).l.length : Int))) then
 if (inb (gd l1 0).i (a0.fld 1).l.length) then
 ((z2P.F [((gd (a0.fld 1).l (gd l1 0).i.toNat).fld 0), ((gd (a0.fld 1).l (gd l1 0).i.toNat).fld 1)]).bind fun r2 =>
 if (!r2.b) then
 ou 0 [(.bool true)]
 else
 (z0X.F [((gd (a0.fld 1).l (gd l1 0).i.toNat).fld 2), (.int 0), (.int 4)]).bind fun r3 =>
 if (!r3.b) then
 ou 0 [(.bool true)]
 else
 (z4w.F [((gd (a0.fld 1).l (gd l1 0).i.toNat).fld 3)]).bind fun r4 =>
 if (!r4.b) then
 ou 0 [(.bool true)]
 else
 if (decide ((gd l1 0).i > 0)) then
 if (inb (IntKind.wrap .i64 ((gd l1 0).i - 1)) (a0.fld 1).l.length) then
 ou 0 [(.bool (decide (((gd (a0.fld 1).l (IntKind.wrap .i64 ((gd l1 0).i - 1)).toNat).fld 0).i ≥ ((gd (a0.fld 1).l (gd l1 0).i.toNat).fld 0).i)))]
 else none
 else
 ou 0 [(.bool false)]).bind fun o2 =>
 sel2 o2.1 (if (gd o2.2 0).b then
 ou 1 []
 else
 ou 0 [(.int (IntKind.wrap .i64 ((gd l1 0).i + 1)))]) fun _ => none
 else none
 else
 ou 2 []) [(.int 0)]).bind fun o1 =>
 sel2 o1.1 (ou 0 [(.bool false)]) fun n2 =>
 sel2 n2 (((z3H.F [(a0.fld 0)]).bind fun r1 =>
 if r1.b then
 (z0X.F [(a0.fld 2), (.int 0), (.int 1000000)]).bind fun r2 =>
 if r2.b then
 ou 0 [(.bool (decide (((a0.fld 1).l.length : Int) ≤ 8)))]
 else
 ou 0 [(.bool false)]
 else
 ou 0 [(.bool false)]).bind fun o1 =>
 sel2 o1.1 (ou 0 [(gd o1.2 0)]) fun _ => none) fun _ => none) := by kernel_rfl
theorem q_spec_TakeAsked (a0 a1 : D) : z4Y.F [a0, a1] = rn (
 (z2J.F [a0]).bind fun r2 =>
 if (!r2.b) then
 ou 0 [(.pair (.pair (.pair (.str []) (.pair (.int 0) (.pair (D.lst []) .unit))) (.pair (D.lst []) (.pair (.int 0) .unit))) (.pair (.pair (.int 0) (.pair (.int 0) (.pair (.int 0) (.pair (.int 0) .unit)))) (.pair (.bool false) .unit)))]
 else
 (z3Q.F [a0]).bind fun r3 =>
 (z3n.F [r3, a1]).bind fun r4 =>
 ou 0 [(.pair (r4.fld 0) (.pair (r4.fld 1) (.pair (r4.fld 2) .unit)))]) := by kernel_rfl
theorem q_laws_sameRecords (a0 a1 : D) : z3u.F [a0, a1] = rn (
 if ((a0.l.length : Int) != (a1.l.length : Int)) then
 ou 0 [(.bool false)]
 else
 (z0c (fun l2 =>
 if (decide ((gd l2 0).i < (a0.l.length : Int))) then
 if (inb (gd l2 0).i a0.l.length) then
 if (inb (gd l2 0).i a1.l.length) then
 if (!(D.beq (gd a0.l (gd l2 0).i.toNat) (gd a1.l (gd l2 0).i.toNat))) then
 ou 1 []
 else
 ou 0 [(.int (IntKind.wrap .i64 ((gd l2 0).i + 1)))]
 else none
 else none
 else
 ou 2 []) [(.int 0)]).bind fun o2 =>
 sel2 o2.1 (ou 0 [(.bool false)]) fun n4 =>
 sel2 n4 (ou 0 [(.bool true)]) fun _ => none) := by kernel_rfl
theorem q_laws_sameZones (a0 a1 : D) : z4X.F [a0, a1] = rn (
 (if ((a0.fld 0).s == (a1.fld 0).s) then
 if ((a0.fld 1).i == (a1.fld 1).i) then
 (z3u.F [(a0.fld 2), (a1.fld 2)]).bind fun r2 =>
 ou 0 [r2]
 else
 ou 0 [(.bool false)]
 else
 ou 0 [(.bool false)]).bind fun o2 =>
 sel2 o2.1 (ou 0 [(gd o2.2 0)]) fun _ => none) := by kernel_rfl
theorem q_laws_sameDone (a0 a1 : D) : z3G.F [a0, a1] = rn (
 if ((a0.l.length : Int) != (a1.l.length : Int)) then
 ou 0 [(.bool false)]
 else
 (z0c (fun l2 =>
 if (decide ((gd l2 0).i < (a0.l.length : Int))) then
 if (inb (gd l2 0).i a0.l.length) then
 if (inb (gd l2 0).i a1.l.length) then
 if (!(D.beq (gd a0.l (gd l2 0).i.toNat) (gd a1.l (gd l2 0).i.toNat))) then
 ou 1 []
 else
 ou 0 [(.int (IntKind.wrap .i64 ((gd l2 0).i + 1)))]
 else none
 else none
 else
 ou 2 []) [(.int 0)]).bind fun o2 =>
 sel2 o2.1 (ou 0 [(.bool false)]) fun n4 =>
 sel2 n4 (ou 0 [(.bool true)]) fun _ => none) := by kernel_rfl
theorem q_laws_sameControls (a0 a1 : D) : z1Q.F [a0, a1] = rn (
 (if ((a0.fld 2).i == (a1.fld 2).i) then
 (z4X.F [(a0.fld 0), (a1.fld 0)]).bind fun r2 =>
 if r2.b then
 (z3G.F [(a0.fld 1), (a1.fld 1)]).bind fun r3 =>
 ou 0 [r3]
 else
 ou 0 [(.bool false)]
 else
 ou 0 [(.bool false)]).bind fun o2 =>
 sel2 o2.1 (ou 0 [(gd o2.2 0)]) fun _ => none) := by kernel_rfl
theorem q_impl_AnswerTo (a0 a1 a2 : D) : z40.F [a0, a1, a2] = rn (
 (z0s.F [a0]).bind fun r3 =>
 if (!r3.b) then
 ou 0 [(.pair (.pair (.int 0) (.pair (.int 0) (.pair (.int 0) (.pair (.int 0) .unit)))) (.pair (.bool false) .unit))]
 else
 (z1u.F [a0, a1]).bind fun r4 =>
 (if (!(r4.fld 1).b) then
 ou 0 [(.bool true)]
 else
 if (inb (r4.fld 0).i (a0.fld 1).l.length) then
 ou 0 [(.bool (((gd (a0.fld 1).l (r4.fld 0).i.toNat).fld 1).i != a2.i))]
 else none).bind fun o5 =>
 sel2 o5.1 (if (gd o5.2 0).b then
 ou 0 [(.pair (.pair (.int 0) (.pair (.int 0) (.pair (.int 0) (.pair (.int 0) .unit)))) (.pair (.bool false) .unit))]
 else
 if (inb (r4.fld 0).i (a0.fld 1).l.length) then
 ou 0 [(.pair (gd (a0.fld 1).l (r4.fld 0).i.toNat) (.pair (.bool true) .unit))]
 else none) fun _ => none) := by kernel_rfl
theorem q_spec_DrawPlayAsked (a0 : D) : z36.F [a0] = rn (
 ((z0e.F [(.pair a0 (.pair (.int 0) (.pair (.int 0) .unit))), (.int 12)]).bind fun r1 =>
 if (r1.fld 0).b then
 (z2Y.F [(r1.fld 1)]).bind fun r2 =>
 ou 0 [(r2.fld 0), (r2.fld 1)]
 else
 ou 0 [(D.str [101, 120, 46, 99, 111, 109]), (r1.fld 1)]).bind fun o1 =>
 sel2 o1.1 ((z1H.F [(gd o1.2 1)]).bind fun r3 =>
 ou 0 [(.pair (gd o1.2 0) (.pair (r3.fld 0) .unit))]) fun _ => none) := by kernel_rfl
theorem q_impl_NewZone (a0 : D) : z5Q.F [a0] = rn (
 (z3C.F [(.pair a0 (.pair (.int 0) (.pair (D.lst ((.pair a0 (.pair (.int 6) (.pair (.int 60) (.pair (D.str [48]) .unit)))) :: ([] : List D))) .unit)))]).bind fun r1 =>
 if (!r1.b) then
 ou 0 [(.pair (.pair (.str []) (.pair (.int 0) (.pair (D.lst []) .unit))) (.pair (.bool false) .unit))]
 else
 ou 0 [(.pair (.pair a0 (.pair (.int 0) (.pair (D.lst ((.pair a0 (.pair (.int 6) (.pair (.int 60) (.pair (D.str [48]) .unit)))) :: ([] : List D))) .unit))) (.pair (.bool true) .unit))]) := by kernel_rfl
theorem q_impl_NewControl (a0 : D) : z47.F [a0] = rn (
 (z5Q.F [a0]).bind fun r1 =>
 if (!(r1.fld 1).b) then
 ou 0 [(.pair (.pair (.pair (.str []) (.pair (.int 0) (.pair (D.lst []) .unit))) (.pair (D.lst []) (.pair (.int 0) .unit))) (.pair (.bool false) .unit))]
 else
 ou 0 [(.pair (.pair (r1.fld 0) (.pair (D.lst []) (.pair (.int 0) .unit))) (.pair (.bool true) .unit))]) := by kernel_rfl
theorem q_impl_PlayAsked (a0 a1 : D) : z4U.F [a0, a1] = rn (
 (z47.F [a0]).bind fun r2 =>
 (if (!(r2.fld 1).b) then
 ou 0 [(.bool true)]
 else
 ou 0 [(.bool (decide ((a1.l.length : Int) > 40)))]).bind fun o3 =>
 sel2 o3.1 (if (gd o3.2 0).b then
 ou 0 [(.pair (.pair (.pair (.str []) (.pair (.int 0) (.pair (D.lst []) .unit))) (.pair (D.lst []) (.pair (.int 0) .unit))) (.pair (D.lst []) (.pair (.bool false) .unit)))]
 else
 (z0c (fun l4 =>
 if (decide ((gd l4 2).i < (a1.l.length : Int))) then
 if (inb (gd l4 2).i a1.l.length) then
 (z1v.F [(gd l4 0), (gd a1.l (gd l4 2).i.toNat)]).bind fun r7 =>
 (if (r7.fld 2).b then
 ou 0 [(r7.fld 0)]
 else
 ou 0 [(gd l4 0)]).bind fun o8 =>
 sel2 o8.1 (if (appOk 32 (gd l4 1).l ((r7.fld 1) :: ([] : List D))) then
 ou 0 [(gd o8.2 0), (D.lst ((gd l4 1).l ++ ((r7.fld 1) :: ([] : List D)))), (.int (IntKind.wrap .i64 ((gd l4 2).i + 1)))]
 else none) fun _ => none
 else none
 else
 ou 1 [(gd l4 0), (gd l4 1)]) [(r2.fld 0), (D.lst []), (.int 0)]).bind fun o4 =>
 sel2 o4.1 (ou 0 [(.pair (gd o4.2 0) (.pair (gd o4.2 1) (.pair (.bool true) .unit)))]) fun _ => none) fun _ => none) := by kernel_rfl
theorem q_spec_DrawAskedText (a0 : D) : z35.F [a0] = rn (
 (z0l.F [(.pair a0 (.pair (.int 0) (.pair (.int 0) .unit)))]).bind fun r1 =>
 ou 0 [(r1.fld 0)]) := by kernel_rfl
theorem q_laws_FnOnce (a0 a1 : D) : z9d.F [a0, a1] = rn (
 if (decide ((IntKind.wrap .i64 ((a0.l.length : Int) + (a1.l.length : Int))) > 1048576)) then
 ou 0 [(.bool true)]
 else
 (z38.F [a0]).bind fun r2 =>
 (z3b.F [(r2.fld 0), (r2.fld 1)]).bind fun r3 =>
 (z4Y.F [(r2.fld 0), (r2.fld 1)]).bind fun r4 =>
 (if (!((r3.fld 2).b == (r4.fld 2).b)) then
 ou 0 [(.bool true)]
 else
 if (!(D.beq (r3.fld 1) (r4.fld 1))) then
 ou 0 [(.bool true)]
 else
 (z1Q.F [(r3.fld 0), (r4.fld 0)]).bind fun r5 =>
 if (!r5.b) then
 ou 0 [(.bool true)]
 else
 (z0s.F [(r2.fld 0)]).bind fun r6 =>
 (z2J.F [(r2.fld 0)]).bind fun r7 =>
 ou 0 [(.bool (!(r6.b == r7.b)))]).bind fun o5 =>
 sel2 o5.1 (if (gd o5.2 0).b then
 ou 0 [(.bool false)]
 else
 (if (r3.fld 2).b then
 (z3b.F [(r3.fld 0), (r2.fld 1)]).bind fun r6 =>
 (z40.F [(r3.fld 0), ((r2.fld 1).fld 0), ((r2.fld 1).fld 1)]).bind fun r7 =>
 (if (!(r6.fld 2).b) then
 ou 0 [(.bool true)]
 else
 if (!(D.beq (r6.fld 1) (r3.fld 1))) then
 ou 0 [(.bool true)]
 else
 (z1Q.F [(r6.fld 0), (r3.fld 0)]).bind fun r8 =>
 if (!r8.b) then
 ou 0 [(.bool true)]
 else
 if (!(r7.fld 1).b) then
 ou 0 [(.bool true)]
 else
 if (!(D.beq (r7.fld 0) (r3.fld 1))) then
 ou 0 [(.bool true)]
 else
 if (((r3.fld 0).fld 2).i != ((r2.fld 0).fld 2).i) then
 if (((r3.fld 0).fld 2).i != (IntKind.wrap .i64 (((r2.fld 0).fld 2).i + 1))) then
 ou 0 [(.bool true)]
 else
 (z0s.F [(r3.fld 0)]).bind fun r9 =>
 ou 0 [(.bool (!r9.b))]
 else
 (z0s.F [(r3.fld 0)]).bind fun r9 =>
 ou 0 [(.bool (!r9.b))]).bind fun o8 =>
 sel2 o8.1 (if (gd o8.2 0).b then
 ou 1 [(.bool false)]
 else
 (z40.F [(r2.fld 0), ((r2.fld 1).fld 0), ((r2.fld 1).fld 1)]).bind fun r9 =>
 (if (!((r9.fld 1).b == (((r3.fld 0).fld 2).i == ((r2.fld 0).fld 2).i))) then
 ou 0 [(.bool true)]
 else
 if (r9.fld 1).b then
 if (!(D.beq (r9.fld 0) (r3.fld 1))) then
 ou 0 [(.bool true)]
 else
 (z1Q.F [(r3.fld 0), (r2.fld 0)]).bind fun r10 =>
 ou 0 [(.bool (!r10.b))]
 else
 ou 0 [(.bool false)]).bind fun o10 =>
 sel2 o10.1 (if (gd o10.2 0).b then
 ou 1 [(.bool false)]
 else
 ou 0 []) fun _ => none) fun _ => none
 else
 ou 0 []).bind fun o6 =>
 sel2 o6.1 ((z36.F [a1]).bind fun r6 =>
 (z4U.F [(r6.fld 0), (r6.fld 1)]).bind fun r7 =>
 (z2m.F [(r6.fld 0), (r6.fld 1)]).bind fun r8 =>
 (if (!((r7.fld 2).b == (r8.fld 2).b)) then
 ou 0 [(.bool true)]
 else
 (z3G.F [(r7.fld 1), (r8.fld 1)]).bind fun r9 =>
 if (!r9.b) then
 ou 0 [(.bool true)]
 else
 (z1Q.F [(r7.fld 0), (r8.fld 0)]).bind fun r10 =>
 ou 0 [(.bool (!r10.b))]).bind fun o9 =>
 sel2 o9.1 (if (gd o9.2 0).b then
 ou 0 [(.bool false)]
 else
 (z35.F [a1]).bind fun r10 =>
 (z2L.F [r10]).bind fun r11 =>
 (z2M.F [r10]).bind fun r12 =>
 (if (!((r11.fld 1).b == (r12.fld 1).b)) then
 ou 0 [(.bool true)]
 else
 ou 0 [(.bool (!((r11.fld 0).s == (r12.fld 0).s)))]).bind fun o13 =>
 sel2 o13.1 (if (gd o13.2 0).b then
 ou 0 [(.bool false)]
 else
 if (!(r11.fld 1).b) then
 ou 0 [(.bool ((r11.fld 0).s == ([] : List UInt8)))]
 else
 (z1g.F [(r11.fld 0)]).bind fun r14 =>
 (if (!(r14.fld 1).b) then
 ou 0 [(.bool true)]
 else
 if (((r14.fld 0).fld 0).i != (r10.fld 0).i) then
 ou 0 [(.bool true)]
 else
 if (((r14.fld 0).fld 1).i != (r10.fld 1).i) then
 ou 0 [(.bool true)]
 else
 ou 0 [(.bool ((((r14.fld 0).fld 2).l.length : Int) != ((r10.fld 2).l.length : Int)))]).bind fun o15 =>
 sel2 o15.1 (if (gd o15.2 0).b then
 ou 0 [(.bool false)]
 else
 (z0c (fun l16 =>
 if (decide ((gd l16 0).i < ((r10.fld 2).l.length : Int))) then
 if (inb (gd l16 0).i ((r14.fld 0).fld 2).l.length) then
 if (inb (gd l16 0).i (r10.fld 2).l.length) then
 if (!(D.beq (gd ((r14.fld 0).fld 2).l (gd l16 0).i.toNat) (gd (r10.fld 2).l (gd l16 0).i.toNat))) then
 ou 1 [(.bool false)]
 else
 ou 0 [(.int (IntKind.wrap .i64 ((gd l16 0).i + 1)))]
 else none
 else none
 else
 ou 2 []) [(.int 0)]).bind fun o16 =>
 sel2 o16.1 (ou 0 [(gd o16.2 0)]) fun n24 =>
 sel2 n24 (ou 0 [(.bool true)]) fun _ => none) fun _ => none) fun _ => none) fun _ => none) fun n8 =>
 sel2 n8 (ou 0 [(gd o6.2 0)]) fun _ => none) fun _ => none) := by kernel_rfl
end Go.Proofs.YtilejnnnkfjmmaaGreatDoor
