/- What each function gives, told as plain code. -/
import Derived.Test.YtobighfemobgjaaGreatDoorC
set_option linter.unusedSectionVars false
set_option linter.unusedVariables false
set_option linter.unusedSimpArgs false
namespace Go.Proofs.YtobighfemobgjaaGreatDoor
open Go Go.Own
set_option maxRecDepth 100000
theorem q_spec_l1Cur_next (a0 : D) : e_spec_l1Cur_next.F [a0] = rn (
 (if (decide ((a0.fld 1).i < ((a0.fld 0).l.length : Int))) then
 if (inb (a0.fld 1).i (a0.fld 0).l.length) then
 ou 0 [(.int (IntKind.wrap .i64 (gd (a0.fld 0).l (a0.fld 1).i.toNat).i))]
 else none
 else
 ou 0 [(.int 0)]).bind fun o1 =>
 sel2 o1.1 (if (decide ((IntKind.wrap .i64 ((a0.fld 1).i + 1)) ≤ ((a0.fld 0).l.length : Int))) then
 ou 0 [(.pair (gd o1.2 0) (.pair ((a0.setFld 1 (.int (IntKind.wrap .i64 ((a0.fld 1).i + 1)))).setFld 2 (.int (IntKind.wrap .u64 ((IntKind.wrap .u64 ((IntKind.wrap .u64 ((a0.fld 2).i * 6364136223846793005)) + (IntKind.wrap .u64 (gd o1.2 0).i))) + 1442695040888963407)))) .unit))]
 else
 if (decide (0 ≤ 40)) then
 ou 0 [(.pair (.int (IntKind.wrap .i64 (D.ofBin (binInt .and .u64 ((IntKind.wrap .u64 ((IntKind.wrap .u64 ((IntKind.wrap .u64 ((a0.fld 2).i * 6364136223846793005)) + (IntKind.wrap .u64 (gd o1.2 0).i))) + 1442695040888963407)).fdiv (2 ^ min 40 (IntKind.bits .u64))) 255)).i)) (.pair ((a0.setFld 1 (.int (IntKind.wrap .i64 ((a0.fld 1).i + 1)))).setFld 2 (.int (IntKind.wrap .u64 ((IntKind.wrap .u64 ((IntKind.wrap .u64 ((a0.fld 2).i * 6364136223846793005)) + (IntKind.wrap .u64 (gd o1.2 0).i))) + 1442695040888963407)))) .unit))]
 else none) fun _ => none) := by kernel_rfl
theorem q_spec_l1Cur_pick (a0 a1 : D) : e_spec_l1Cur_pick.F [a0, a1] = rn (
 if (decide (a1.i ≤ 1)) then
 ou 0 [(.pair (.int 0) (.pair a0 .unit))]
 else
 (e_spec_l1Cur_next.F [a0]).bind fun r2 =>
 (if (decide (a1.i > 200)) then
 (e_spec_l1Cur_next.F [(r2.fld 1)]).bind fun r3 =>
 ou 0 [(r3.fld 1), (.int (IntKind.wrap .i64 ((IntKind.wrap .i64 ((r2.fld 0).i * 256)) + (r3.fld 0).i)))]
 else
 ou 0 [(r2.fld 1), (r2.fld 0)]).bind fun o3 =>
 sel2 o3.1 (if (a1.i != 0) then
 ou 0 [(.pair (.int ((gd o3.2 1).i.tmod a1.i)) (.pair (gd o3.2 0) .unit))]
 else none) fun _ => none) := by kernel_rfl
theorem q_spec_l1Cur_one (a0 a1 : D) : e_spec_l1Cur_one.F [a0, a1] = rn (
 (e_spec_l1Cur_pick.F [a0, a1]).bind fun r2 =>
 ou 0 [(.pair (.bool ((r2.fld 0).i == 0)) (.pair (r2.fld 1) .unit))]) := by kernel_rfl
theorem q_spec_l1Cur_of (a0 a1 : D) : e_spec_l1Cur_of.F [a0, a1] = rn (
 (e_spec_l1Cur_pick.F [a0, (.int (a1.l.length : Int))]).bind fun r2 =>
 if (inb (r2.fld 0).i a1.l.length) then
 ou 0 [(.pair (gd a1.l (r2.fld 0).i.toNat) (.pair (r2.fld 1) .unit))]
 else none) := by kernel_rfl
theorem q_spec_l1Cur_among (a0 a1 : D) : e_spec_l1Cur_among.F [a0, a1] = rn (
 (e_spec_l1Cur_pick.F [a0, (.int (a1.l.length : Int))]).bind fun r2 =>
 if (inb (r2.fld 0).i a1.l.length) then
 ou 0 [(.pair (gd a1.l (r2.fld 0).i.toNat) (.pair (r2.fld 1) .unit))]
 else none) := by kernel_rfl
theorem q_spec_l1Cur_policy (a0 : D) : e_spec_l1Cur_policy.F [a0] = rn (
 (e_spec_l1Cur_pick.F [a0, (.int 5)]).bind fun r1 =>
 ((e_spec_l1Cur_one.F [(r1.fld 1), (.int 30)]).bind fun r2 =>
 if (r2.fld 0).b then
 (e_spec_l1Cur_pick.F [(r2.fld 1), (.int 2)]).bind fun r3 =>
 ou 0 [(r3.fld 1), (.int (IntKind.wrap .i64 (12 + (r3.fld 0).i)))]
 else
 ou 0 [(r2.fld 1), (.int (IntKind.wrap .i64 (1 + (r1.fld 0).i)))]).bind fun o2 =>
 sel2 o2.1 ((loopF (fun l4 =>
 if (decide ((gd l4 2).i > 0)) then
 (e_spec_l1Cur_of.F [(gd l4 0), (D.lst ((D.str [97, 46, 101, 120, 46, 99, 111, 109]) :: ((D.str [98, 46, 101, 120, 46, 99, 111, 109]) :: ((D.str [99, 46, 101, 120, 46, 99, 111, 109]) :: ((D.str [111, 116, 104, 101, 114]) :: ([] : List D))))))]).bind fun r7 =>
 (e_spec_l1Cur_of.F [(r7.fld 1), (D.lst ((D.str [49, 46, 49, 46, 49, 46, 49]) :: ((D.str [50, 46, 50, 46, 50, 46, 50]) :: ((D.str [51, 46, 51, 46, 51, 46, 51]) :: ([] : List D)))))]).bind fun r8 =>
 (e_spec_l1Cur_pick.F [(r8.fld 1), (.int 3)]).bind fun r9 =>
 (e_spec_l1Cur_pick.F [(r9.fld 1), (.int 9)]).bind fun r10 =>
 if (appOk 48 ((gd l4 1).fld 1).l ((.pair (r7.fld 0) (.pair (r8.fld 0) (.pair (r9.fld 0) (.pair (.int (IntKind.wrap .i64 (1 + (r10.fld 0).i))) .unit)))) :: ([] : List D))) then
 ou 0 [(r10.fld 1), ((gd l4 1).setFld 1 (D.lst (((gd l4 1).fld 1).l ++ ((.pair (r7.fld 0) (.pair (r8.fld 0) (.pair (r9.fld 0) (.pair (.int (IntKind.wrap .i64 (1 + (r10.fld 0).i))) .unit)))) :: ([] : List D))))), (.int (IntKind.wrap .i64 ((gd l4 2).i - 1)))]
 else none
 else
 ou 1 [(gd l4 0), (gd l4 1)]) [(gd o2.2 0), (.pair (D.str [119, 119, 119, 46, 101, 120, 46, 99, 111, 109]) (.pair (D.lst []) .unit)), (gd o2.2 1)]).bind fun o4 =>
 sel2 o4.1 (((e_spec_l1Cur_pick.F [(gd o4.2 0), (.int 40)]).bind fun r6 =>
 if ((r6.fld 0).i == 0) then
 (e_spec_l1Cur_among.F [(r6.fld 1), (D.lst ((.int 0) :: ((.int 50) :: ((.int 51) :: ([] : List D)))))]).bind fun r7 =>
 if (inb 0 ((gd o4.2 1).fld 1).l.length) then
 ou 0 [(r7.fld 1), ((gd o4.2 1).setFld 1 (D.lst (upd ((gd o4.2 1).fld 1).l 0 3 (r7.fld 0))))]
 else none
 else
 if ((r6.fld 0).i == 1) then
 if (inb 0 ((gd o4.2 1).fld 1).l.length) then
 ou 0 [(r6.fld 1), ((gd o4.2 1).setFld 1 (D.lst (upd ((gd o4.2 1).fld 1).l 0 1 (D.str [49, 46, 49, 46, 49]))))]
 else none
 else
 if ((r6.fld 0).i == 2) then
 (e_spec_l1Cur_among.F [(r6.fld 1), (D.lst ((.int (-1)) :: ((.int 9) :: ((.int 10) :: ([] : List D)))))]).bind fun r7 =>
 if (inb 0 ((gd o4.2 1).fld 1).l.length) then
 ou 0 [(r7.fld 1), ((gd o4.2 1).setFld 1 (D.lst (upd ((gd o4.2 1).fld 1).l 0 2 (r7.fld 0))))]
 else none
 else
 ou 0 [(r6.fld 1), (gd o4.2 1)]).bind fun o6 =>
 sel2 o6.1 (ou 0 [(.pair (gd o6.2 1) (.pair (gd o6.2 0) .unit))]) fun _ => none) fun _ => none) fun _ => none) := by kernel_rfl
theorem q_spec_l1Cur_hosts (a0 : D) : e_spec_l1Cur_hosts.F [a0] = rn (
 (e_spec_l1Cur_pick.F [a0, (.int 4)]).bind fun r1 =>
 if (slOk 0 (IntKind.wrap .i64 (1 + (r1.fld 0).i)) (((D.str [97, 46, 101, 120, 46, 99, 111, 109]) :: ((D.str [98, 46, 101, 120, 46, 99, 111, 109]) :: ((D.str [99, 46, 101, 120, 46, 99, 111, 109]) :: ((D.str [100, 46, 101, 120, 46, 99, 111, 109]) :: ([] : List D))))).length : Int)) then
 if (winOk 0 (((IntKind.wrap .i64 (1 + (r1.fld 0).i)).toNat - 0 : Nat) : Int).toNat ((D.str [97, 46, 101, 120, 46, 99, 111, 109]) :: ((D.str [98, 46, 101, 120, 46, 99, 111, 109]) :: ((D.str [99, 46, 101, 120, 46, 99, 111, 109]) :: ((D.str [100, 46, 101, 120, 46, 99, 111, 109]) :: ([] : List D)))))) then
 ((e_spec_l1Cur_one.F [(r1.fld 1), (.int 30)]).bind fun r2 =>
 if (r2.fld 0).b then
 if (appOk 16 ([] : List D) ((((D.str [97, 46, 101, 120, 46, 99, 111, 109]) :: ((D.str [98, 46, 101, 120, 46, 99, 111, 109]) :: ((D.str [99, 46, 101, 120, 46, 99, 111, 109]) :: ((D.str [100, 46, 101, 120, 46, 99, 111, 109]) :: ([] : List D))))).drop 0).take (((IntKind.wrap .i64 (1 + (r1.fld 0).i)).toNat - 0 : Nat) : Int).toNat)) then
 (e_spec_l1Cur_of.F [(r2.fld 1), (D.lst ((D.str []) :: ((D.str [97, 46, 101, 120, 46, 99, 111, 109]) :: ((D.str [65]) :: ([] : List D)))))]).bind fun r3 =>
 if (appOk 16 (([] : List D) ++ ((((D.str [97, 46, 101, 120, 46, 99, 111, 109]) :: ((D.str [98, 46, 101, 120, 46, 99, 111, 109]) :: ((D.str [99, 46, 101, 120, 46, 99, 111, 109]) :: ((D.str [100, 46, 101, 120, 46, 99, 111, 109]) :: ([] : List D))))).drop 0).take (((IntKind.wrap .i64 (1 + (r1.fld 0).i)).toNat - 0 : Nat) : Int).toNat)) ((r3.fld 0) :: ([] : List D))) then
 ou 0 [(r3.fld 1), (D.lst ((([] : List D) ++ ((((D.str [97, 46, 101, 120, 46, 99, 111, 109]) :: ((D.str [98, 46, 101, 120, 46, 99, 111, 109]) :: ((D.str [99, 46, 101, 120, 46, 99, 111, 109]) :: ((D.str [100, 46, 101, 120, 46, 99, 111, 109]) :: ([] : List D))))).drop 0).take (((IntKind.wrap .i64 (1 + (r1.fld 0).i)).toNat - 0 : Nat) : Int).toNat)) ++ ((r3.fld 0) :: ([] : List D))))]
 else none
 else none
 else
 ou 0 [(r2.fld 1), (D.lst ((((D.str [97, 46, 101, 120, 46, 99, 111, 109]) :: ((D.str [98, 46, 101, 120, 46, 99, 111, 109]) :: ((D.str [99, 46, 101, 120, 46, 99, 111, 109]) :: ((D.str [100, 46, 101, 120, 46, 99, 111, 109]) :: ([] : List D))))).drop 0).take (((IntKind.wrap .i64 (1 + (r1.fld 0).i)).toNat - 0 : Nat) : Int).toNat))]).bind fun o2 =>
 sel2 o2.1 (ou 0 [(.pair (gd o2.2 1) (.pair (gd o2.2 0) .unit))]) fun _ => none
 else none
 else none) := by kernel_rfl
theorem q_spec_l1Cur_probes (a0 a1 : D) : e_spec_l1Cur_probes.F [a0, a1] = rn (
 (e_spec_l1Cur_pick.F [a0, (.int 30)]).bind fun r2 =>
 ((e_spec_l1Cur_one.F [(r2.fld 1), (.int 20)]).bind fun r3 =>
 if (r3.fld 0).b then
 (e_spec_l1Cur_pick.F [(r3.fld 1), (.int 2)]).bind fun r4 =>
 ou 0 [(r4.fld 1), (.int (IntKind.wrap .i64 (200 + (r4.fld 0).i)))]
 else
 ou 0 [(r3.fld 1), (r2.fld 0)]).bind fun o3 =>
 sel2 o3.1 ((loopF (fun l5 =>
 if (decide ((gd l5 2).i > 0)) then
 (e_spec_l1Cur_pick.F [(gd l5 0), a1]).bind fun r8 =>
 (e_spec_l1Cur_one.F [(r8.fld 1), (.int 2)]).bind fun r9 =>
 if (appOk 16 (gd l5 1).l ((.pair (r8.fld 0) (.pair (r9.fld 0) .unit)) :: ([] : List D))) then
 ou 0 [(r9.fld 1), (D.lst ((gd l5 1).l ++ ((.pair (r8.fld 0) (.pair (r9.fld 0) .unit)) :: ([] : List D)))), (.int (IntKind.wrap .i64 ((gd l5 2).i - 1)))]
 else none
 else
 ou 1 [(gd l5 0), (gd l5 1)]) [(gd o3.2 0), (D.lst []), (gd o3.2 1)]).bind fun o5 =>
 sel2 o5.1 (((if (decide (((gd o5.2 1).l.length : Int) > 0)) then
 (e_spec_l1Cur_one.F [(gd o5.2 0), (.int 40)]).bind fun r7 =>
 ou 0 [(r7.fld 1), (r7.fld 0)]
 else
 ou 0 [(gd o5.2 0), (.bool false)]).bind fun o7 =>
 sel2 o7.1 (if (gd o7.2 1).b then
 if (inb 0 (gd o5.2 1).l.length) then
 ou 0 [(gd o7.2 0), (D.lst (upd (gd o5.2 1).l 0 0 a1))]
 else none
 else
 ou 0 [(gd o7.2 0), (gd o5.2 1)]) fun _ => none).bind fun o7 =>
 sel2 o7.1 (ou 0 [(.pair (gd o7.2 1) (.pair (gd o7.2 0) .unit))]) fun _ => none) fun _ => none) fun _ => none) := by kernel_rfl
theorem q_spec_l1In (a0 a1 a2 : D) : e_spec_l1In.F [a0, a1, a2] = rn (
 (if (decide (a0.i ≥ a1.i)) then
 ou 0 [(.bool (decide (a0.i ≤ a2.i)))]
 else
 ou 0 [(.bool false)]).bind fun o3 =>
 sel2 o3.1 (ou 0 [(gd o3.2 0)]) fun _ => none) := by kernel_rfl
theorem q_spec_l1Split (a0 a1 : D) : e_spec_l1Split.F [a0, a1] = rn (
 (loopF (fun l2 =>
 if (decide ((gd l2 2).i < (a0.s.length : Int))) then
 (if (inb (gd l2 2).i a0.s.length) then
 if ((byteAt a0.s (gd l2 2).i.toNat : Int) == a1.i) then
 if (slOk (gd l2 1).i (gd l2 2).i (a0.s.length : Int)) then
 if (appOk 16 (gd l2 0).l ((.str ((a0.s.take (gd l2 2).i.toNat).drop (gd l2 1).i.toNat)) :: ([] : List D))) then
 ou 0 [(D.lst ((gd l2 0).l ++ ((.str ((a0.s.take (gd l2 2).i.toNat).drop (gd l2 1).i.toNat)) :: ([] : List D)))), (.int (IntKind.wrap .i64 ((gd l2 2).i + 1)))]
 else none
 else none
 else
 ou 0 [(gd l2 0), (gd l2 1)]
 else none).bind fun o5 =>
 sel2 o5.1 (ou 0 [(gd o5.2 0), (gd o5.2 1), (.int (IntKind.wrap .i64 ((gd l2 2).i + 1)))]) fun _ => none
 else
 ou 1 [(gd l2 0), (gd l2 1)]) [(D.lst []), (.int 0), (.int 0)]).bind fun o2 =>
 sel2 o2.1 (if (slOk (gd o2.2 1).i (a0.s.length : Int) (a0.s.length : Int)) then
 if (appOk 16 (gd o2.2 0).l ((.str ((a0.s.take (a0.s.length : Int).toNat).drop (gd o2.2 1).i.toNat)) :: ([] : List D))) then
 ou 0 [(D.lst ((gd o2.2 0).l ++ ((.str ((a0.s.take (a0.s.length : Int).toNat).drop (gd o2.2 1).i.toNat)) :: ([] : List D))))]
 else none
 else none) fun _ => none) := by kernel_rfl
theorem q_spec_l1Label (a0 : D) : e_spec_l1Label.F [a0] = rn (
 if (a0.s == ([42] : List UInt8)) then
 ou 0 [(.bool true)]
 else
 (loopF (fun l1 =>
 if (decide ((gd l1 0).i < (a0.s.length : Int))) then
 if (inb (gd l1 0).i a0.s.length) then
 (if (decide ((byteAt a0.s (gd l1 0).i.toNat : Int) ≥ 97)) then
 if (decide ((byteAt a0.s (gd l1 0).i.toNat : Int) ≤ 122)) then
 ou 0 [(.bool (!true))]
 else
 if (decide ((byteAt a0.s (gd l1 0).i.toNat : Int) ≥ 48)) then
 if (decide ((byteAt a0.s (gd l1 0).i.toNat : Int) ≤ 57)) then
 ou 0 [(.bool (!true))]
 else
 if ((byteAt a0.s (gd l1 0).i.toNat : Int) == 45) then
 ou 0 [(.bool (!true))]
 else
 ou 0 [(.bool (!((byteAt a0.s (gd l1 0).i.toNat : Int) == 95)))]
 else
 if ((byteAt a0.s (gd l1 0).i.toNat : Int) == 45) then
 ou 0 [(.bool (!true))]
 else
 ou 0 [(.bool (!((byteAt a0.s (gd l1 0).i.toNat : Int) == 95)))]
 else
 if (decide ((byteAt a0.s (gd l1 0).i.toNat : Int) ≥ 48)) then
 if (decide ((byteAt a0.s (gd l1 0).i.toNat : Int) ≤ 57)) then
 ou 0 [(.bool (!true))]
 else
 if ((byteAt a0.s (gd l1 0).i.toNat : Int) == 45) then
 ou 0 [(.bool (!true))]
 else
 ou 0 [(.bool (!((byteAt a0.s (gd l1 0).i.toNat : Int) == 95)))]
 else
 if ((byteAt a0.s (gd l1 0).i.toNat : Int) == 45) then
 ou 0 [(.bool (!true))]
 else
 ou 0 [(.bool (!((byteAt a0.s (gd l1 0).i.toNat : Int) == 95)))]).bind fun o2 =>
 sel2 o2.1 (if (gd o2.2 0).b then
 ou 1 []
 else
 ou 0 [(.int (IntKind.wrap .i64 ((gd l1 0).i + 1)))]) fun _ => none
 else none
 else
 ou 2 []) [(.int 0)]).bind fun o1 =>
 sel2 o1.1 (ou 0 [(.bool false)]) fun n4 =>
 sel2 n4 ((e_spec_l1In.F [(.int (a0.s.length : Int)), (.int 1), (.int 20)]).bind fun r1 =>
 ou 0 [r1]) fun _ => none) := by kernel_rfl
theorem q_spec_l1Labels (a0 : D) : e_spec_l1Labels.F [a0] = rn (
 if (a0.s == ([] : List UInt8)) then
 ou 0 [(.pair (D.lst []) (.pair (.bool true) .unit))]
 else
 (e_spec_l1Split.F [a0, (.int 46)]).bind fun r1 =>
 (loopF (fun l2 =>
 if (decide ((gd l2 0).i < (r1.l.length : Int))) then
 if (inb (gd l2 0).i r1.l.length) then
 (e_spec_l1Label.F [(gd r1.l (gd l2 0).i.toNat)]).bind fun r3 =>
 if (!r3.b) then
 ou 1 []
 else
 ou 0 [(.int (IntKind.wrap .i64 ((gd l2 0).i + 1)))]
 else none
 else
 ou 2 []) [(.int 0)]).bind fun o2 =>
 sel2 o2.1 (ou 0 [(.pair (D.lst []) (.pair (.bool false) .unit))]) fun n4 =>
 sel2 n4 ((if (decide ((a0.s.length : Int) ≤ 60)) then
 ou 0 [r1, (.bool (decide ((r1.l.length : Int) ≤ 8)))]
 else
 ou 0 [r1, (.bool false)]).bind fun o2 =>
 sel2 o2.1 (ou 0 [(.pair (gd o2.2 0) (.pair (gd o2.2 1) .unit))]) fun _ => none) fun _ => none) := by kernel_rfl
theorem q_spec_GoodName (a0 : D) : e_spec_GoodName.F [a0] = rn (
 (e_spec_l1Labels.F [a0]).bind fun r1 =>
 ou 0 [(r1.fld 1)]) := by kernel_rfl
theorem q_spec_l13Names (a0 : D) : e_spec_l13Names.F [a0] = rn (
 (loopF (fun l1 =>
 if (decide ((gd l1 0).i < (a0.l.length : Int))) then
 if (inb (gd l1 0).i a0.l.length) then
 ((e_spec_GoodName.F [(gd a0.l (gd l1 0).i.toNat)]).bind fun r2 =>
 if (!r2.b) then
 ou 0 [(.bool true)]
 else
 ou 0 [(.bool ((gd a0.l (gd l1 0).i.toNat).s == ([] : List UInt8)))]).bind fun o2 =>
 sel2 o2.1 (if (gd o2.2 0).b then
 ou 1 [(.bool false)]
 else
 if (slOk 0 (gd l1 0).i (a0.l.length : Int)) then
 (loopF (fun l3 =>
 if (decide ((gd l3 0).i < (((a0.l.take (gd l1 0).i.toNat).drop 0).length : Int))) then
 if (inb (gd l3 0).i ((a0.l.take (gd l1 0).i.toNat).drop 0).length) then
 if ((gd (D.lst ((a0.l.take (gd l1 0).i.toNat).drop 0)).l (gd l3 0).i.toNat).s == (gd a0.l (gd l1 0).i.toNat).s) then
 ou 1 [(.bool false)]
 else
 ou 0 [(.int (IntKind.wrap .i64 ((gd l3 0).i + 1)))]
 else none
 else
 ou 2 []) [(.int 0)]).bind fun o3 =>
 sel2 o3.1 (ou 1 [(gd o3.2 0)]) fun n12 =>
 sel2 n12 (ou 0 [(.int (IntKind.wrap .i64 ((gd l1 0).i + 1)))]) fun _ => none
 else none) fun _ => none
 else none
 else
 ou 2 []) [(.int 0)]).bind fun o1 =>
 sel2 o1.1 (ou 0 [(gd o1.2 0)]) fun n2 =>
 sel2 n2 ((e_spec_l1In.F [(.int (a0.l.length : Int)), (.int 1), (.int 12)]).bind fun r1 =>
 ou 0 [r1]) fun _ => none) := by kernel_rfl
theorem q_spec_NewHealth (a0 a1 a2 : D) : e_spec_NewHealth.F [a0, a1, a2] = rn (
 ((e_spec_l1In.F [a0, (.int 1), (.int 10)]).bind fun r3 =>
 if (!r3.b) then
 ou 0 [(.bool true)]
 else
 (e_spec_l1In.F [a1, (.int 1), (.int 10)]).bind fun r4 =>
 if (!r4.b) then
 ou 0 [(.bool true)]
 else
 (e_spec_l13Names.F [a2]).bind fun r5 =>
 ou 0 [(.bool (!r5.b))]).bind fun o3 =>
 sel2 o3.1 (if (gd o3.2 0).b then
 ou 0 [(.pair (.pair (.int 0) (.pair (.int 0) (.pair (D.lst []) .unit))) (.pair (.bool false) .unit))]
 else
 (loopF (fun l4 =>
 if (decide ((gd l4 1).i < (a2.l.length : Int))) then
 if (inb (gd l4 1).i a2.l.length) then
 if (appOk 32 ((gd l4 0).fld 2).l ((.pair (gd a2.l (gd l4 1).i.toNat) (.pair (.bool true) (.pair (.int 0) .unit))) :: ([] : List D))) then
 ou 0 [((gd l4 0).setFld 2 (D.lst (((gd l4 0).fld 2).l ++ ((.pair (gd a2.l (gd l4 1).i.toNat) (.pair (.bool true) (.pair (.int 0) .unit))) :: ([] : List D))))), (.int (IntKind.wrap .i64 ((gd l4 1).i + 1)))]
 else none
 else none
 else
 ou 1 [(gd l4 0)]) [(.pair a0 (.pair a1 (.pair (D.lst []) .unit))), (.int 0)]).bind fun o4 =>
 sel2 o4.1 (ou 0 [(.pair (gd o4.2 0) (.pair (.bool true) .unit))]) fun _ => none) fun _ => none) := by kernel_rfl
theorem q_spec_l13Most (a0 a1 : D) : e_spec_l13Most.F [a0, a1] = rn (
 if (a1.fld 1).b then
 ou 0 [(a0.fld 1)]
 else
 ou 0 [(a0.fld 0)]) := by kernel_rfl
theorem q_spec_GoodHealth (a0 : D) : e_spec_GoodHealth.F [a0] = rn (
 (loopF (fun l1 =>
 if (decide ((gd l1 1).i < ((a0.fld 2).l.length : Int))) then
 if (inb (gd l1 1).i (a0.fld 2).l.length) then
 (e_spec_l13Most.F [a0, (gd (a0.fld 2).l (gd l1 1).i.toNat)]).bind fun r3 =>
 (e_spec_l1In.F [((gd (a0.fld 2).l (gd l1 1).i.toNat).fld 2), (.int 0), (.int (IntKind.wrap .i64 (r3.i - 1)))]).bind fun r4 =>
 if (!r4.b) then
 ou 1 []
 else
 if (appOk 16 (gd l1 0).l (((gd (a0.fld 2).l (gd l1 1).i.toNat).fld 0) :: ([] : List D))) then
 ou 0 [(D.lst ((gd l1 0).l ++ (((gd (a0.fld 2).l (gd l1 1).i.toNat).fld 0) :: ([] : List D)))), (.int (IntKind.wrap .i64 ((gd l1 1).i + 1)))]
 else none
 else none
 else
 ou 2 [(gd l1 0)]) [(D.lst []), (.int 0)]).bind fun o1 =>
 sel2 o1.1 (ou 0 [(.bool false)]) fun n2 =>
 sel2 n2 (((e_spec_l1In.F [(a0.fld 0), (.int 1), (.int 10)]).bind fun r2 =>
 if r2.b then
 (e_spec_l1In.F [(a0.fld 1), (.int 1), (.int 10)]).bind fun r3 =>
 if r3.b then
 (e_spec_l13Names.F [(gd o1.2 0)]).bind fun r4 =>
 ou 0 [r4]
 else
 ou 0 [(.bool false)]
 else
 ou 0 [(.bool false)]).bind fun o2 =>
 sel2 o2.1 (ou 0 [(gd o2.2 0)]) fun _ => none) fun _ => none) := by kernel_rfl
theorem q_spec_l13Own (a0 : D) : e_spec_l13Own.F [a0] = rn (
 if (appOk 32 ([] : List D) (a0.fld 2).l) then
 ou 0 [(a0.setFld 2 (D.lst (([] : List D) ++ (a0.fld 2).l)))]
 else none) := by kernel_rfl
theorem q_spec_TakeProbe (a0 a1 : D) : e_spec_TakeProbe.F [a0, a1] = rn (
 ((e_spec_GoodHealth.F [a0]).bind fun r2 =>
 if (!r2.b) then
 ou 0 [(.bool true)]
 else
 (e_spec_l1In.F [(a1.fld 0), (.int 0), (.int (IntKind.wrap .i64 (((a0.fld 2).l.length : Int) - 1)))]).bind fun r3 =>
 ou 0 [(.bool (!r3.b))]).bind fun o2 =>
 sel2 o2.1 (if (gd o2.2 0).b then
 ou 0 [(.pair (.pair (.int 0) (.pair (.int 0) (.pair (D.lst []) .unit))) (.pair (.bool false) (.pair (.bool false) .unit)))]
 else
 (e_spec_l13Own.F [a0]).bind fun r3 =>
 if (inb (a1.fld 0).i (r3.fld 2).l.length) then
 if ((a1.fld 1).b == ((gd (r3.fld 2).l (a1.fld 0).i.toNat).fld 1).b) then
 ou 0 [(.pair (r3.setFld 2 (D.lst (upd (r3.fld 2).l (a1.fld 0).i.toNat 2 (.int 0)))) (.pair (.bool false) (.pair (.bool true) .unit)))]
 else
 (e_spec_l13Most.F [r3, (gd (r3.fld 2).l (a1.fld 0).i.toNat)]).bind fun r4 =>
 if (decide ((IntKind.wrap .i64 (((gd (r3.fld 2).l (a1.fld 0).i.toNat).fld 2).i + 1)) < r4.i)) then
 ou 0 [(.pair (r3.setFld 2 (D.lst (upd (r3.fld 2).l (a1.fld 0).i.toNat 2 (.int (IntKind.wrap .i64 (((gd (r3.fld 2).l (a1.fld 0).i.toNat).fld 2).i + 1)))))) (.pair (.bool false) (.pair (.bool true) .unit)))]
 else
 ou 0 [(.pair ((r3.setFld 2 (D.lst (upd (r3.fld 2).l (a1.fld 0).i.toNat 1 (.bool (!((gd (r3.fld 2).l (a1.fld 0).i.toNat).fld 1).b))))).setFld 2 (D.lst (upd (upd (r3.fld 2).l (a1.fld 0).i.toNat 1 (.bool (!((gd (r3.fld 2).l (a1.fld 0).i.toNat).fld 1).b))) (a1.fld 0).i.toNat 2 (.int 0)))) (.pair (.bool true) (.pair (.bool true) .unit)))]
 else none) fun _ => none) := by kernel_rfl
theorem q_spec_PlayProbes (a0 a1 a2 a3 : D) : e_spec_PlayProbes.F [a0, a1, a2, a3] = rn (
 (e_spec_NewHealth.F [a0, a1, a2]).bind fun r4 =>
 (if (!(r4.fld 1).b) then
 ou 0 [(.bool true)]
 else
 ou 0 [(.bool (decide ((a3.l.length : Int) > 200)))]).bind fun o5 =>
 sel2 o5.1 (if (gd o5.2 0).b then
 ou 0 [(.pair (.pair (.int 0) (.pair (.int 0) (.pair (D.lst []) .unit))) (.pair (.int 0) (.pair (.bool false) .unit)))]
 else
 (loopF (fun l6 =>
 if (decide ((gd l6 2).i < (a3.l.length : Int))) then
 (if (inb (gd l6 2).i a3.l.length) then
 (e_spec_TakeProbe.F [(gd l6 0), (gd a3.l (gd l6 2).i.toNat)]).bind fun r9 =>
 if (!(r9.fld 2).b) then
 ou 1 [(.pair (.int 0) (.pair (.int 0) (.pair (D.lst []) .unit))), (.int 0), (.bool false)]
 else
 if (r9.fld 1).b then
 ou 0 [(r9.fld 0), (.int (IntKind.wrap .i64 ((gd l6 1).i + 1)))]
 else
 ou 0 [(r9.fld 0), (gd l6 1)]
 else none).bind fun o9 =>
 sel2 o9.1 (ou 0 [(gd o9.2 0), (gd o9.2 1), (.int (IntKind.wrap .i64 ((gd l6 2).i + 1)))]) fun n12 =>
 sel2 n12 (ou 1 [(gd o9.2 0), (gd o9.2 1), (gd o9.2 2)]) fun _ => none
 else
 ou 2 [(gd l6 0), (gd l6 1)]) [(r4.fld 0), (.int 0), (.int 0)]).bind fun o6 =>
 sel2 o6.1 (ou 0 [(.pair (gd o6.2 0) (.pair (gd o6.2 1) (.pair (gd o6.2 2) .unit)))]) fun n6 =>
 sel2 n6 (ou 0 [(.pair (gd o6.2 0) (.pair (gd o6.2 1) (.pair (.bool true) .unit)))]) fun _ => none) fun _ => none) := by kernel_rfl
theorem q_spec_l1Cur_health (a0 : D) : e_spec_l1Cur_health.F [a0] = rn (
 (e_spec_l1Cur_hosts.F [a0]).bind fun r1 =>
 (e_spec_l1Cur_probes.F [(r1.fld 1), (.int ((r1.fld 0).l.length : Int))]).bind fun r2 =>
 (if (decide (((r2.fld 0).l.length : Int) > 40)) then
 if (slOk 0 40 ((r2.fld 0).l.length : Int)) then
 if (winOk 0 ((40 - 0 : Nat) : Int).toNat (r2.fld 0).l) then
 ou 0 [(D.lst (((r2.fld 0).l.drop 0).take ((40 - 0 : Nat) : Int).toNat))]
 else none
 else none
 else
 ou 0 [(r2.fld 0)]).bind fun o3 =>
 sel2 o3.1 ((e_spec_l1Cur_pick.F [(r2.fld 1), (.int 3)]).bind fun r4 =>
 (e_spec_l1Cur_pick.F [(r4.fld 1), (.int 3)]).bind fun r5 =>
 (e_spec_PlayProbes.F [(.int (IntKind.wrap .i64 (1 + (r4.fld 0).i))), (.int (IntKind.wrap .i64 (1 + (r5.fld 0).i))), (r1.fld 0), (gd o3.2 0)]).bind fun r6 =>
 (if (!(r6.fld 2).b) then
 (e_spec_NewHealth.F [(.int 2), (.int 2), (D.lst ((D.str [97, 46, 101, 120, 46, 99, 111, 109]) :: ([] : List D)))]).bind fun r7 =>
 ou 0 [(r7.fld 0)]
 else
 ou 0 [(r6.fld 0)]).bind fun o7 =>
 sel2 o7.1 (((e_spec_l1Cur_one.F [(r5.fld 1), (.int 20)]).bind fun r8 =>
 if (r8.fld 0).b then
 if (inb 0 ((gd o7.2 0).fld 2).l.length) then
 (e_spec_l1Cur_pick.F [(r8.fld 1), (.int 4)]).bind fun r9 =>
 ou 0 [(r9.fld 1), ((gd o7.2 0).setFld 2 (D.lst (upd ((gd o7.2 0).fld 2).l 0 2 (.int (IntKind.wrap .i64 (((gd ((gd o7.2 0).fld 2).l 0).fld 2).i + (r9.fld 0).i))))))]
 else none
 else
 ou 0 [(r8.fld 1), (gd o7.2 0)]).bind fun o8 =>
 sel2 o8.1 (ou 0 [(.pair (gd o8.2 1) (.pair (gd o8.2 0) .unit))]) fun _ => none) fun _ => none) fun _ => none) := by kernel_rfl
theorem q_spec_DrawGroupOf (a0 : D) : e_spec_DrawGroupOf.F [a0] = rn (
 (e_spec_l1Cur_policy.F [(.pair a0 (.pair (.int 0) (.pair (.int 0) .unit)))]).bind fun r1 =>
 (e_spec_l1Cur_health.F [(r1.fld 1)]).bind fun r2 =>
 ou 0 [(.pair (r1.fld 0) (.pair (r2.fld 0) .unit))]) := by kernel_rfl
theorem q_spec_DrawSharesOf (a0 : D) : e_spec_DrawSharesOf.F [a0] = rn (
 (e_spec_DrawGroupOf.F [a0]).bind fun r1 =>
 ou 0 [(.pair (r1.fld 0) (.pair (r1.fld 1) .unit))]) := by kernel_rfl
theorem q_impl_labelsOf (a0 : D) : e_impl_labelsOf.F [a0] = rn (
 if (a0.s == ([] : List UInt8)) then
 ou 0 [(D.lst [])]
 else
 (e_strings_Split.F [a0, (D.str [46])]).bind fun r1 =>
 ou 0 [r1]) := by kernel_rfl
theorem q_impl_within (a0 a1 a2 : D) : e_impl_within.F [a0, a1, a2] = rn (
 (if (decide (a0.i ≥ a1.i)) then
 ou 0 [(.bool (decide (a0.i ≤ a2.i)))]
 else
 ou 0 [(.bool false)]).bind fun o3 =>
 sel2 o3.1 (ou 0 [(gd o3.2 0)]) fun _ => none) := by kernel_rfl
theorem q_impl_isLabel (a0 : D) : e_impl_isLabel.F [a0] = rn (
 if (a0.s == ([42] : List UInt8)) then
 ou 0 [(.bool true)]
 else
 ((e_impl_within.F [(.int (a0.s.length : Int)), (.int 1), (.int 20)]).bind fun r1 =>
 if r1.b then
 (e_strings_Trim.F [a0, (D.str [97, 98, 99, 100, 101, 102, 103, 104, 105, 106, 107, 108, 109, 110, 111, 112, 113, 114, 115, 116, 117, 118, 119, 120, 121, 122, 48, 49, 50, 51, 52, 53, 54, 55, 56, 57, 45, 95])]).bind fun r2 =>
 ou 0 [(.bool (r2.s == ([] : List UInt8)))]
 else
 ou 0 [(.bool false)]).bind fun o1 =>
 sel2 o1.1 (ou 0 [(gd o1.2 0)]) fun _ => none) := by kernel_rfl
theorem q_impl_GoodName_1 (a0 : D) : e_impl_GoodName_1.F [a0] = rn (
 (e_impl_isLabel.F [a0]).bind fun r1 =>
 ou 0 [(.bool (!r1.b))]) := by kernel_rfl
theorem q_slices_IndexFunc_string_string__impl_GoodName_1 (a0 a1 : D) : e_slices_IndexFunc_string_string__impl_GoodName_1.F [a0, a1] = rn (
 (loopF (fun l2 =>
 if (decide ((gd l2 0).i < (a0.l.length : Int))) then
 if (inb (gd l2 0).i a0.l.length) then
 (e_impl_GoodName_1.F [(gd a0.l (gd l2 0).i.toNat)]).bind fun r3 =>
 if r3.b then
 ou 1 [(gd l2 0)]
 else
 ou 0 [(.int (IntKind.wrap .i64 ((gd l2 0).i + 1)))]
 else none
 else
 ou 2 []) [(.int 0)]).bind fun o2 =>
 sel2 o2.1 (ou 0 [(gd o2.2 0)]) fun n2 =>
 sel2 n2 (ou 0 [(.int (-1))]) fun _ => none) := by kernel_rfl
theorem q_slices_ContainsFunc_string_string__impl_GoodName_1 (a0 a1 : D) : e_slices_ContainsFunc_string_string__impl_GoodName_1.F [a0, a1] = rn (
 (e_slices_IndexFunc_string_string__impl_GoodName_1.F [a0, a1]).bind fun r2 =>
 ou 0 [(.bool (decide (r2.i ≥ 0)))]) := by kernel_rfl
theorem q_impl_GoodName (a0 : D) : e_impl_GoodName.F [a0] = rn (
 if (decide ((a0.s.length : Int) > 60)) then
 ou 0 [(.bool false)]
 else
 (e_impl_labelsOf.F [a0]).bind fun r1 =>
 (if (decide ((r1.l.length : Int) ≤ 8)) then
 (e_slices_ContainsFunc_string_string__impl_GoodName_1.F [r1, .unit]).bind fun r2 =>
 ou 0 [(.bool (!r2.b))]
 else
 ou 0 [(.bool false)]).bind fun o2 =>
 sel2 o2.1 (ou 0 [(gd o2.2 0)]) fun _ => none) := by kernel_rfl
theorem q_impl_numberIn (a0 a1 : D) : e_impl_numberIn.F [a0, a1] = rn (
 (e_strconv_Atoi.F [a0]).bind fun r2 =>
 (if (!(r2.fld 1).b) then
 (e_impl_within.F [(r2.fld 0), (.int 0), a1]).bind fun r3 =>
 if r3.b then
 (e_strconv_Itoa.F [(r2.fld 0)]).bind fun r4 =>
 ou 0 [(r2.fld 0), (.bool (r4.s == a0.s))]
 else
 ou 0 [(r2.fld 0), (.bool false)]
 else
 ou 0 [(r2.fld 0), (.bool false)]).bind fun o3 =>
 sel2 o3.1 (ou 0 [(.pair (gd o3.2 0) (.pair (gd o3.2 1) .unit))]) fun _ => none) := by kernel_rfl
theorem q_impl_big (a0 a1 : D) : e_impl_big.F [a0, a1] = rn (
 (loopF (fun l2 =>
 if (decide ((gd l2 1).i ≥ 0)) then
 if (decide (0 ≤ (IntKind.wrap .i64 (8 * (gd l2 1).i)))) then
 if (appOk 1 (gd l2 0).l ((.int (IntKind.wrap .u8 (a0.i.fdiv (2 ^ min (IntKind.wrap .i64 (8 * (gd l2 1).i)).toNat (IntKind.bits .i64))))) :: ([] : List D))) then
 ou 0 [(D.lst ((gd l2 0).l ++ ((.int (IntKind.wrap .u8 (a0.i.fdiv (2 ^ min (IntKind.wrap .i64 (8 * (gd l2 1).i)).toNat (IntKind.bits .i64))))) :: ([] : List D)))), (.int (IntKind.wrap .i64 ((gd l2 1).i - 1)))]
 else none
 else none
 else
 ou 1 [(gd l2 0)]) [(D.lst []), (.int (IntKind.wrap .i64 (a1.i - 1)))]).bind fun o2 =>
 sel2 o2.1 (ou 0 [(.str (bytesStr (gd o2.2 0).l))]) fun _ => none) := by kernel_rfl
theorem q_impl_isTarget (a0 : D) : e_impl_isTarget.F [a0] = rn (
 (if (!(a0.s == ([] : List UInt8))) then
 (e_impl_GoodName.F [a0]).bind fun r1 =>
 if r1.b then
 (e_strings_Contains.F [a0, (D.str [42])]).bind fun r2 =>
 ou 0 [(.bool (!r2.b))]
 else
 ou 0 [(.bool false)]
 else
 ou 0 [(.bool false)]).bind fun o1 =>
 sel2 o1.1 (ou 0 [(gd o1.2 0)]) fun _ => none) := by kernel_rfl
theorem q_impl_labelBytes (a0 : D) : e_impl_labelBytes.F [a0] = rn (
 (e_impl_labelsOf.F [a0]).bind fun r1 =>
 (loopF (fun l2 =>
 if (decide ((gd l2 1).i < (r1.l.length : Int))) then
 if (inb (gd l2 1).i r1.l.length) then
 if (catOk (bytesStr ((.int (IntKind.wrap .u8 ((gd r1.l (gd l2 1).i.toNat).s.length : Int))) :: ([] : List D))) (gd r1.l (gd l2 1).i.toNat).s) then
 if (catOk (gd l2 0).s ((bytesStr ((.int (IntKind.wrap .u8 ((gd r1.l (gd l2 1).i.toNat).s.length : Int))) :: ([] : List D))) ++ (gd r1.l (gd l2 1).i.toNat).s)) then
 ou 0 [(.str ((gd l2 0).s ++ ((bytesStr ((.int (IntKind.wrap .u8 ((gd r1.l (gd l2 1).i.toNat).s.length : Int))) :: ([] : List D))) ++ (gd r1.l (gd l2 1).i.toNat).s))), (.int (IntKind.wrap .i64 ((gd l2 1).i + 1)))]
 else none
 else none
 else none
 else
 ou 1 [(gd l2 0)]) [(D.str []), (.int 0)]).bind fun o2 =>
 sel2 o2.1 (ou 0 [(gd o2.2 0)]) fun _ => none) := by kernel_rfl
theorem q_impl_DataBytes_1 (a0 : D) : e_impl_DataBytes_1.F [a0] = rn (
 (if (decide (a0.i < 32)) then
 ou 0 [(.bool true)]
 else
 ou 0 [(.bool (decide (a0.i > 126)))]).bind fun o1 =>
 sel2 o1.1 (ou 0 [(gd o1.2 0)]) fun _ => none) := by kernel_rfl
theorem q_slices_IndexFunc_byte_byte__impl_DataBytes_1 (a0 a1 : D) : e_slices_IndexFunc_byte_byte__impl_DataBytes_1.F [a0, a1] = rn (
 (loopF (fun l2 =>
 if (decide ((gd l2 0).i < (a0.l.length : Int))) then
 if (inb (gd l2 0).i a0.l.length) then
 (e_impl_DataBytes_1.F [(gd a0.l (gd l2 0).i.toNat)]).bind fun r3 =>
 if r3.b then
 ou 1 [(gd l2 0)]
 else
 ou 0 [(.int (IntKind.wrap .i64 ((gd l2 0).i + 1)))]
 else none
 else
 ou 2 []) [(.int 0)]).bind fun o2 =>
 sel2 o2.1 (ou 0 [(gd o2.2 0)]) fun n2 =>
 sel2 n2 (ou 0 [(.int (-1))]) fun _ => none) := by kernel_rfl
theorem q_slices_ContainsFunc_byte_byte__impl_DataBytes_1 (a0 a1 : D) : e_slices_ContainsFunc_byte_byte__impl_DataBytes_1.F [a0, a1] = rn (
 (e_slices_IndexFunc_byte_byte__impl_DataBytes_1.F [a0, a1]).bind fun r2 =>
 ou 0 [(.bool (decide (r2.i ≥ 0)))]) := by kernel_rfl
theorem q_impl_DataBytes (a0 a1 : D) : e_impl_DataBytes.F [a0, a1] = rn (
 if (a0.i == 1) then
 (e_strings_Split.F [a1, (D.str [46])]).bind fun r2 =>
 (loopF (fun l3 =>
 if (decide ((gd l3 1).i < (r2.l.length : Int))) then
 if (inb (gd l3 1).i r2.l.length) then
 (e_impl_numberIn.F [(gd r2.l (gd l3 1).i.toNat), (.int 255)]).bind fun r5 =>
 (if (!(r5.fld 1).b) then
 ou 0 [(.bool true)]
 else
 ou 0 [(.bool ((r2.l.length : Int) != 4))]).bind fun o6 =>
 sel2 o6.1 (if (gd o6.2 0).b then
 ou 1 []
 else
 (e_impl_big.F [(r5.fld 0), (.int 1)]).bind fun r7 =>
 if (catOk (gd l3 0).s r7.s) then
 ou 0 [(.str ((gd l3 0).s ++ r7.s)), (.int (IntKind.wrap .i64 ((gd l3 1).i + 1)))]
 else none) fun _ => none
 else none
 else
 ou 2 [(gd l3 0)]) [(D.str []), (.int 0)]).bind fun o3 =>
 sel2 o3.1 (ou 0 [(.pair (D.str []) (.pair (.bool false) .unit))]) fun n4 =>
 sel2 n4 (ou 0 [(.pair (gd o3.2 0) (.pair (.bool true) .unit))]) fun _ => none
 else
 (if (a0.i == 2) then
 ou 0 [(.bool (a0.i == 2))]
 else
 ou 0 [(.bool (a0.i == 5))]).bind fun o2 =>
 sel2 o2.1 (if (gd o2.2 0).b then
 (e_impl_isTarget.F [a1]).bind fun r3 =>
 if (!r3.b) then
 ou 0 [(.pair (D.str []) (.pair (.bool false) .unit))]
 else
 (e_impl_labelBytes.F [a1]).bind fun r4 =>
 if (catOk r4.s ([0] : List UInt8)) then
 ou 0 [(.pair (.str (r4.s ++ ([0] : List UInt8))) (.pair (.bool true) .unit))]
 else none
 else
 if (a0.i == 6) then
 (e_impl_numberIn.F [a1, (.int 4294967295)]).bind fun r3 =>
 if (!(r3.fld 1).b) then
 ou 0 [(.pair (D.str []) (.pair (.bool false) .unit))]
 else
 (e_impl_big.F [(r3.fld 0), (.int 4)]).bind fun r4 =>
 ou 0 [(.pair r4 (.pair (.bool true) .unit))]
 else
 if (a0.i == 15) then
 (e_strings_Cut.F [a1, (D.str [32])]).bind fun r3 =>
 (e_impl_numberIn.F [(r3.fld 0), (.int 65535)]).bind fun r4 =>
 (if (!(r4.fld 1).b) then
 ou 0 [(.bool true)]
 else
 (e_impl_isTarget.F [(r3.fld 1)]).bind fun r5 =>
 ou 0 [(.bool (!r5.b))]).bind fun o5 =>
 sel2 o5.1 (if (gd o5.2 0).b then
 ou 0 [(.pair (D.str []) (.pair (.bool false) .unit))]
 else
 (e_impl_big.F [(r4.fld 0), (.int 2)]).bind fun r6 =>
 (e_impl_labelBytes.F [(r3.fld 1)]).bind fun r7 =>
 if (catOk r6.s r7.s) then
 if (catOk (r6.s ++ r7.s) ([0] : List UInt8)) then
 ou 0 [(.pair (.str ((r6.s ++ r7.s) ++ ([0] : List UInt8))) (.pair (.bool true) .unit))]
 else none
 else none) fun _ => none
 else
 if (a0.i == 16) then
 (if (decide ((a1.s.length : Int) > 30)) then
 ou 0 [(.bool true)]
 else
 (e_slices_ContainsFunc_byte_byte__impl_DataBytes_1.F [(D.lst (a1.s.map fun c => D.int c.toNat)), .unit]).bind fun r3 =>
 ou 0 [r3]).bind fun o3 =>
 sel2 o3.1 (if (gd o3.2 0).b then
 ou 0 [(.pair (D.str []) (.pair (.bool false) .unit))]
 else
 (e_impl_big.F [(.int (a1.s.length : Int)), (.int 1)]).bind fun r4 =>
 if (catOk r4.s a1.s) then
 ou 0 [(.pair (.str (r4.s ++ a1.s)) (.pair (.bool true) .unit))]
 else none) fun _ => none
 else
 ou 0 [(.pair (D.str []) (.pair (.bool false) .unit))]) fun _ => none) := by kernel_rfl
theorem q_impl_GoodPolicy_1 (a0 : D) : e_impl_GoodPolicy_1.F [a0] = rn (
 (e_impl_DataBytes.F [(.int 1), (a0.fld 1)]).bind fun r1 =>
 (if (!(r1.fld 1).b) then
 ou 0 [(.bool true)]
 else
 if (decide (((a0.fld 1).s.length : Int) > 100)) then
 ou 0 [(.bool true)]
 else
 (e_impl_GoodName.F [(a0.fld 0)]).bind fun r2 =>
 if (!r2.b) then
 ou 0 [(.bool true)]
 else
 (e_impl_within.F [(a0.fld 2), (.int 0), (.int 9)]).bind fun r3 =>
 if (!r3.b) then
 ou 0 [(.bool true)]
 else
 (e_impl_within.F [(a0.fld 3), (.int 1), (.int 50)]).bind fun r4 =>
 ou 0 [(.bool (!r4.b))]).bind fun o2 =>
 sel2 o2.1 (ou 0 [(gd o2.2 0)]) fun _ => none) := by kernel_rfl
theorem q_slices_IndexFunc_impl_Target_impl_Target__impl_GoodPolicy_1 (a0 a1 : D) : e_slices_IndexFunc_impl_Target_impl_Target__impl_GoodPolicy_1.F [a0, a1] = rn (
 (loopF (fun l2 =>
 if (decide ((gd l2 0).i < (a0.l.length : Int))) then
 if (inb (gd l2 0).i a0.l.length) then
 (e_impl_GoodPolicy_1.F [(gd a0.l (gd l2 0).i.toNat)]).bind fun r3 =>
 if r3.b then
 ou 1 [(gd l2 0)]
 else
 ou 0 [(.int (IntKind.wrap .i64 ((gd l2 0).i + 1)))]
 else none
 else
 ou 2 []) [(.int 0)]).bind fun o2 =>
 sel2 o2.1 (ou 0 [(gd o2.2 0)]) fun n2 =>
 sel2 n2 (ou 0 [(.int (-1))]) fun _ => none) := by kernel_rfl
theorem q_slices_ContainsFunc_impl_Target_impl_Target__impl_GoodPolicy_1 (a0 a1 : D) : e_slices_ContainsFunc_impl_Target_impl_Target__impl_GoodPolicy_1.F [a0, a1] = rn (
 (e_slices_IndexFunc_impl_Target_impl_Target__impl_GoodPolicy_1.F [a0, a1]).bind fun r2 =>
 ou 0 [(.bool (decide (r2.i ≥ 0)))]) := by kernel_rfl
theorem q_impl_GoodPolicy (a0 : D) : e_impl_GoodPolicy.F [a0] = rn (
 ((e_impl_GoodName.F [(a0.fld 0)]).bind fun r1 =>
 if r1.b then
 (e_impl_within.F [(.int ((a0.fld 1).l.length : Int)), (.int 1), (.int 12)]).bind fun r2 =>
 if r2.b then
 (e_slices_ContainsFunc_impl_Target_impl_Target__impl_GoodPolicy_1.F [(a0.fld 1), .unit]).bind fun r3 =>
 ou 0 [(.bool (!r3.b))]
 else
 ou 0 [(.bool false)]
 else
 ou 0 [(.bool false)]).bind fun o1 =>
 sel2 o1.1 (ou 0 [(gd o1.2 0)]) fun _ => none) := by kernel_rfl
theorem q_impl_Health_mostRow (a0 a1 : D) : e_impl_Health_mostRow.F [a0, a1] = rn (
 if (a1.fld 1).b then
 ou 0 [(a0.fld 1)]
 else
 ou 0 [(a0.fld 0)]) := by kernel_rfl
theorem q_impl_GoodHealth_1 (a0 a1 : D) : e_impl_GoodHealth_1.F [a0, a1] = rn (
 ou 0 [(.bool ((a0.fld 0).s == (a1.fld 0).s))]) := by kernel_rfl
theorem q_slices_IndexFunc_impl_Host_impl_Host__impl_GoodHealth_1 (a0 a1 : D) : e_slices_IndexFunc_impl_Host_impl_Host__impl_GoodHealth_1.F [a0, a1] = rn (
 (loopF (fun l2 =>
 if (decide ((gd l2 0).i < (a0.l.length : Int))) then
 if (inb (gd l2 0).i a0.l.length) then
 (e_impl_GoodHealth_1.F [(gd a0.l (gd l2 0).i.toNat), (a1.fld 0)]).bind fun r3 =>
 if r3.b then
 ou 1 [(gd l2 0)]
 else
 ou 0 [(.int (IntKind.wrap .i64 ((gd l2 0).i + 1)))]
 else none
 else
 ou 2 []) [(.int 0)]).bind fun o2 =>
 sel2 o2.1 (ou 0 [(gd o2.2 0)]) fun n2 =>
 sel2 n2 (ou 0 [(.int (-1))]) fun _ => none) := by kernel_rfl
theorem q_slices_ContainsFunc_impl_Host_impl_Host__impl_GoodHealth_1 (a0 a1 : D) : e_slices_ContainsFunc_impl_Host_impl_Host__impl_GoodHealth_1.F [a0, a1] = rn (
 (e_slices_IndexFunc_impl_Host_impl_Host__impl_GoodHealth_1.F [a0, a1]).bind fun r2 =>
 ou 0 [(.bool (decide (r2.i ≥ 0)))]) := by kernel_rfl
theorem q_impl_GoodHealth (a0 : D) : e_impl_GoodHealth.F [a0] = rn (
 ((e_impl_within.F [(a0.fld 0), (.int 1), (.int 10)]).bind fun r1 =>
 if (!r1.b) then
 ou 0 [(.bool true)]
 else
 (e_impl_within.F [(a0.fld 1), (.int 1), (.int 10)]).bind fun r2 =>
 if (!r2.b) then
 ou 0 [(.bool true)]
 else
 (e_impl_within.F [(.int ((a0.fld 2).l.length : Int)), (.int 1), (.int 12)]).bind fun r3 =>
 ou 0 [(.bool (!r3.b))]).bind fun o1 =>
 sel2 o1.1 (if (gd o1.2 0).b then
 ou 0 [(.bool false)]
 else
 (loopF (fun l2 =>
 if (decide ((gd l2 0).i < ((a0.fld 2).l.length : Int))) then
 if (inb (gd l2 0).i (a0.fld 2).l.length) then
 (if (((gd (a0.fld 2).l (gd l2 0).i.toNat).fld 0).s == ([] : List UInt8)) then
 ou 0 [(.bool true)]
 else
 (e_impl_GoodName.F [((gd (a0.fld 2).l (gd l2 0).i.toNat).fld 0)]).bind fun r3 =>
 if (!r3.b) then
 ou 0 [(.bool true)]
 else
 (e_impl_Health_mostRow.F [a0, (gd (a0.fld 2).l (gd l2 0).i.toNat)]).bind fun r4 =>
 (e_impl_within.F [((gd (a0.fld 2).l (gd l2 0).i.toNat).fld 2), (.int 0), (.int (IntKind.wrap .i64 (r4.i - 1)))]).bind fun r5 =>
 if (!r5.b) then
 ou 0 [(.bool true)]
 else
 if (slOk 0 (gd l2 0).i ((a0.fld 2).l.length : Int)) then
 (e_slices_ContainsFunc_impl_Host_impl_Host__impl_GoodHealth_1.F [(D.lst (((a0.fld 2).l.take (gd l2 0).i.toNat).drop 0)), (.pair (gd (a0.fld 2).l (gd l2 0).i.toNat) .unit)]).bind fun r6 =>
 ou 0 [r6]
 else none).bind fun o3 =>
 sel2 o3.1 (if (gd o3.2 0).b then
 ou 1 [(.bool false)]
 else
 ou 0 [(.int (IntKind.wrap .i64 ((gd l2 0).i + 1)))]) fun _ => none
 else none
 else
 ou 2 []) [(.int 0)]).bind fun o2 =>
 sel2 o2.1 (ou 0 [(gd o2.2 0)]) fun n6 =>
 sel2 n6 (ou 0 [(.bool true)]) fun _ => none) fun _ => none) := by kernel_rfl
theorem q_impl_groupsIn (a0 : D) : e_impl_groupsIn.F [a0] = rn (
 (loopF (fun l1 =>
 if (decide ((gd l1 1).i < ((a0.fld 1).l.length : Int))) then
 if (inb (gd l1 1).i (a0.fld 1).l.length) then
 if (appOk 8 (gd l1 0).l (((gd (a0.fld 1).l (gd l1 1).i.toNat).fld 2) :: ([] : List D))) then
 ou 0 [(D.lst ((gd l1 0).l ++ (((gd (a0.fld 1).l (gd l1 1).i.toNat).fld 2) :: ([] : List D)))), (.int (IntKind.wrap .i64 ((gd l1 1).i + 1)))]
 else none
 else none
 else
 ou 1 [(gd l1 0)]) [(D.lst []), (.int 0)]).bind fun o1 =>
 sel2 o1.1 ((e_slices_Sort_int_int.F [(gd o1.2 0)]).bind fun r2 =>
 (e_slices_Compact_int_int.F [(r2.fld 1)]).bind fun r3 =>
 ou 0 [r3]) fun _ => none) := by kernel_rfl
theorem q_impl_Health_findHost_1 (a0 a1 : D) : e_impl_Health_findHost_1.F [a0, a1] = rn (
 ou 0 [(.bool ((a0.fld 0).s == a1.s))]) := by kernel_rfl
theorem q_slices_IndexFunc_impl_Host_impl_Host__impl_Health_findHost_1 (a0 a1 : D) : e_slices_IndexFunc_impl_Host_impl_Host__impl_Health_findHost_1.F [a0, a1] = rn (
 (loopF (fun l2 =>
 if (decide ((gd l2 0).i < (a0.l.length : Int))) then
 if (inb (gd l2 0).i a0.l.length) then
 (e_impl_Health_findHost_1.F [(gd a0.l (gd l2 0).i.toNat), (a1.fld 0)]).bind fun r3 =>
 if r3.b then
 ou 1 [(gd l2 0)]
 else
 ou 0 [(.int (IntKind.wrap .i64 ((gd l2 0).i + 1)))]
 else none
 else
 ou 2 []) [(.int 0)]).bind fun o2 =>
 sel2 o2.1 (ou 0 [(gd o2.2 0)]) fun n2 =>
 sel2 n2 (ou 0 [(.int (-1))]) fun _ => none) := by kernel_rfl
theorem q_impl_Health_findHost (a0 a1 : D) : e_impl_Health_findHost.F [a0, a1] = rn (
 (e_slices_IndexFunc_impl_Host_impl_Host__impl_Health_findHost_1.F [(a0.fld 2), (.pair a1 .unit)]).bind fun r2 =>
 ou 0 [r2]) := by kernel_rfl
theorem q_impl_isWell (a0 a1 : D) : e_impl_isWell.F [a0, a1] = rn (
 (e_impl_Health_findHost.F [a0, (a1.fld 0)]).bind fun r2 =>
 (if (decide (r2.i < 0)) then
 ou 0 [(.bool true)]
 else
 if (inb r2.i (a0.fld 2).l.length) then
 ou 0 [((gd (a0.fld 2).l r2.i.toNat).fld 1)]
 else none).bind fun o3 =>
 sel2 o3.1 (ou 0 [(gd o3.2 0)]) fun _ => none) := by kernel_rfl
theorem q_impl_groupOf_1 (a0 a1 a2 : D) : e_impl_groupOf_1.F [a0, a1, a2] = rn (
 (if ((a0.fld 2).i == a1.i) then
 (e_impl_isWell.F [a2, a0]).bind fun r3 =>
 ou 0 [r3]
 else
 ou 0 [(.bool false)]).bind fun o3 =>
 sel2 o3.1 (ou 0 [(gd o3.2 0)]) fun _ => none) := by kernel_rfl
theorem q_slices_IndexFunc_impl_Target_impl_Target__impl_groupOf_1 (a0 a1 : D) : e_slices_IndexFunc_impl_Target_impl_Target__impl_groupOf_1.F [a0, a1] = rn (
 (loopF (fun l2 =>
 if (decide ((gd l2 0).i < (a0.l.length : Int))) then
 if (inb (gd l2 0).i a0.l.length) then
 (e_impl_groupOf_1.F [(gd a0.l (gd l2 0).i.toNat), (a1.fld 0), (a1.fld 1)]).bind fun r3 =>
 if r3.b then
 ou 1 [(gd l2 0)]
 else
 ou 0 [(.int (IntKind.wrap .i64 ((gd l2 0).i + 1)))]
 else none
 else
 ou 2 []) [(.int 0)]).bind fun o2 =>
 sel2 o2.1 (ou 0 [(gd o2.2 0)]) fun n2 =>
 sel2 n2 (ou 0 [(.int (-1))]) fun _ => none) := by kernel_rfl
theorem q_slices_ContainsFunc_impl_Target_impl_Target__impl_groupOf_1 (a0 a1 : D) : e_slices_ContainsFunc_impl_Target_impl_Target__impl_groupOf_1.F [a0, a1] = rn (
 (e_slices_IndexFunc_impl_Target_impl_Target__impl_groupOf_1.F [a0, a1]).bind fun r2 =>
 ou 0 [(.bool (decide (r2.i ≥ 0)))]) := by kernel_rfl
theorem q_impl_groupOf (a0 a1 : D) : e_impl_groupOf.F [a0, a1] = rn (
 (e_impl_groupsIn.F [a0]).bind fun r2 =>
 (loopF (fun l3 =>
 if (decide ((gd l3 0).i < (r2.l.length : Int))) then
 if (inb (gd l3 0).i r2.l.length) then
 (e_slices_ContainsFunc_impl_Target_impl_Target__impl_groupOf_1.F [(a0.fld 1), (.pair (gd r2.l (gd l3 0).i.toNat) (.pair a1 .unit))]).bind fun r4 =>
 if r4.b then
 ou 1 [(gd r2.l (gd l3 0).i.toNat)]
 else
 ou 0 [(.int (IntKind.wrap .i64 ((gd l3 0).i + 1)))]
 else none
 else
 ou 2 []) [(.int 0)]).bind fun o3 =>
 sel2 o3.1 (ou 0 [(gd o3.2 0)]) fun n2 =>
 sel2 n2 (if (inb 0 r2.l.length) then
 ou 0 [(gd r2.l 0)]
 else none) fun _ => none) := by kernel_rfl
theorem q_impl_candidatesOf (a0 a1 : D) : e_impl_candidatesOf.F [a0, a1] = rn (
 (e_impl_groupOf.F [a0, a1]).bind fun r2 =>
 (loopF (fun l3 =>
 if (decide ((gd l3 2).i < ((a0.fld 1).l.length : Int))) then
 (if (inb (gd l3 2).i (a0.fld 1).l.length) then
 if (((gd (a0.fld 1).l (gd l3 2).i.toNat).fld 2).i != r2.i) then
 ou 0 [(gd l3 0), (gd l3 1)]
 else
 if (appOk 8 (gd l3 1).l ((gd l3 2) :: ([] : List D))) then
 (e_impl_isWell.F [a1, (gd (a0.fld 1).l (gd l3 2).i.toNat)]).bind fun r6 =>
 if r6.b then
 if (appOk 8 (gd l3 0).l ((gd l3 2) :: ([] : List D))) then
 ou 0 [(D.lst ((gd l3 0).l ++ ((gd l3 2) :: ([] : List D)))), (D.lst ((gd l3 1).l ++ ((gd l3 2) :: ([] : List D))))]
 else none
 else
 ou 0 [(gd l3 0), (D.lst ((gd l3 1).l ++ ((gd l3 2) :: ([] : List D))))]
 else none
 else none).bind fun o6 =>
 sel2 o6.1 (ou 0 [(gd o6.2 0), (gd o6.2 1), (.int (IntKind.wrap .i64 ((gd l3 2).i + 1)))]) fun _ => none
 else
 ou 1 [(gd l3 0), (gd l3 1)]) [(D.lst []), (D.lst []), (.int 0)]).bind fun o3 =>
 sel2 o3.1 (if (decide (((gd o3.2 0).l.length : Int) > 0)) then
 ou 0 [(gd o3.2 0)]
 else
 ou 0 [(gd o3.2 1)]) fun _ => none) := by kernel_rfl
theorem q_impl_totalOf (a0 : D) : e_impl_totalOf.F [a0] = rn (
 (loopF (fun l1 =>
 if (decide ((gd l1 1).i < (a0.l.length : Int))) then
 if (inb (gd l1 1).i a0.l.length) then
 ou 0 [(.int (IntKind.wrap .i64 ((gd l1 0).i + (gd a0.l (gd l1 1).i.toNat).i))), (.int (IntKind.wrap .i64 ((gd l1 1).i + 1)))]
 else none
 else
 ou 1 [(gd l1 0)]) [(.int 0), (.int 0)]).bind fun o1 =>
 sel2 o1.1 (ou 0 [(gd o1.2 0)]) fun _ => none) := by kernel_rfl
theorem q_impl_SharesOf (a0 a1 : D) : e_impl_SharesOf.F [a0, a1] = rn (
 ((e_impl_GoodPolicy.F [a0]).bind fun r2 =>
 if (!r2.b) then
 ou 0 [(.bool true)]
 else
 (e_impl_GoodHealth.F [a1]).bind fun r3 =>
 ou 0 [(.bool (!r3.b))]).bind fun o2 =>
 sel2 o2.1 (if (gd o2.2 0).b then
 ou 0 [(.pair (D.lst []) (.pair (.int 0) (.pair (.bool false) .unit)))]
 else
 if (makeOk 8 ((a0.fld 1).l.length : Int)) then
 (e_impl_candidatesOf.F [a0, a1]).bind fun r3 =>
 (loopF (fun l4 =>
 if (decide ((gd l4 1).i < (r3.l.length : Int))) then
 if (inb (gd l4 1).i r3.l.length) then
 if (inb (gd r3.l (gd l4 1).i.toNat).i (a0.fld 1).l.length) then
 if (inb (gd r3.l (gd l4 1).i.toNat).i (gd l4 0).l.length) then
 ou 0 [(D.lst ((gd l4 0).l.set (gd r3.l (gd l4 1).i.toNat).i.toNat ((gd (a0.fld 1).l (gd r3.l (gd l4 1).i.toNat).i.toNat).fld 3))), (.int (IntKind.wrap .i64 ((gd l4 1).i + 1)))]
 else none
 else none
 else none
 else
 ou 1 [(gd l4 0)]) [(D.lst (List.replicate ((a0.fld 1).l.length : Int).toNat (.int 0))), (.int 0)]).bind fun o4 =>
 sel2 o4.1 ((e_impl_totalOf.F [(gd o4.2 0)]).bind fun r5 =>
 ou 0 [(.pair (gd o4.2 0) (.pair r5 (.pair (.bool true) .unit)))]) fun _ => none
 else none) fun _ => none) := by kernel_rfl
theorem q_spec_l1Int (a0 : D) : e_spec_l1Int.F [a0] = rn (
 ((e_spec_l1In.F [(.int (a0.s.length : Int)), (.int 1), (.int 10)]).bind fun r1 =>
 if (!r1.b) then
 ou 0 [(.bool true)]
 else
 if (inb 0 a0.s.length) then
 if ((byteAt a0.s 0 : Int) == 48) then
 ou 0 [(.bool (decide ((a0.s.length : Int) > 1)))]
 else
 ou 0 [(.bool false)]
 else none).bind fun o1 =>
 sel2 o1.1 (if (gd o1.2 0).b then
 ou 0 [(.int (-1))]
 else
 (loopF (fun l2 =>
 if (decide ((gd l2 1).i < (a0.s.length : Int))) then
 (if (inb (gd l2 1).i a0.s.length) then
 if (decide ((byteAt a0.s (gd l2 1).i.toNat : Int) < 48)) then
 ou 0 [(.bool true)]
 else
 ou 0 [(.bool (decide ((byteAt a0.s (gd l2 1).i.toNat : Int) > 57)))]
 else none).bind fun o4 =>
 sel2 o4.1 (if (gd o4.2 0).b then
 ou 1 [(.int (-1))]
 else
 if (inb (gd l2 1).i a0.s.length) then
 ou 0 [(.int (IntKind.wrap .i64 ((IntKind.wrap .i64 (10 * (gd l2 0).i)) + (IntKind.wrap .i64 (IntKind.wrap .u8 ((byteAt a0.s (gd l2 1).i.toNat : Int) - 48)))))), (.int (IntKind.wrap .i64 ((gd l2 1).i + 1)))]
 else none) fun _ => none
 else
 ou 2 [(gd l2 0)]) [(.int 0), (.int 0)]).bind fun o2 =>
 sel2 o2.1 (ou 0 [(gd o2.2 0)]) fun n6 =>
 sel2 n6 (ou 0 [(gd o2.2 0)]) fun _ => none) fun _ => none) := by kernel_rfl
theorem q_spec_l3Number (a0 a1 : D) : e_spec_l3Number.F [a0, a1] = rn (
 if (makeOk 1 a1.i) then
 (loopF (fun l2 =>
 if (decide ((gd l2 2).i ≥ 0)) then
 if (inb (gd l2 2).i (gd l2 1).l.length) then
 if (decide (0 ≤ 8)) then
 ou 0 [(.int ((gd l2 0).i.fdiv (2 ^ min 8 (IntKind.bits .i64)))), (D.lst ((gd l2 1).l.set (gd l2 2).i.toNat (.int (IntKind.wrap .u8 (gd l2 0).i)))), (.int (IntKind.wrap .i64 ((gd l2 2).i - 1)))]
 else none
 else none
 else
 ou 1 [(gd l2 1)]) [a0, (D.lst (List.replicate a1.i.toNat (.int 0))), (.int (IntKind.wrap .i64 (a1.i - 1)))]).bind fun o2 =>
 sel2 o2.1 (ou 0 [(.str (bytesStr (gd o2.2 0).l))]) fun _ => none
 else none) := by kernel_rfl
theorem q_spec_l3Target (a0 : D) : e_spec_l3Target.F [a0] = rn (
 (e_spec_l1Labels.F [a0]).bind fun r1 =>
 (loopF (fun l2 =>
 if (decide ((gd l2 1).i < ((r1.fld 0).l.length : Int))) then
 (if (inb (gd l2 1).i (r1.fld 0).l.length) then
 if (gd l2 0).b then
 ou 0 [(.bool (!((gd (r1.fld 0).l (gd l2 1).i.toNat).s == ([42] : List UInt8))))]
 else
 ou 0 [(.bool false)]
 else none).bind fun o4 =>
 sel2 o4.1 (ou 0 [(gd o4.2 0), (.int (IntKind.wrap .i64 ((gd l2 1).i + 1)))]) fun _ => none
 else
 ou 1 [(gd l2 0)]) [(r1.fld 1), (.int 0)]).bind fun o2 =>
 sel2 o2.1 ((if (gd o2.2 0).b then
 ou 0 [(.bool (!(a0.s == ([] : List UInt8))))]
 else
 ou 0 [(.bool false)]).bind fun o3 =>
 sel2 o3.1 (ou 0 [(gd o3.2 0)]) fun _ => none) fun _ => none) := by kernel_rfl
theorem q_spec_l2Bytes (a0 : D) : e_spec_l2Bytes.F [a0] = rn (
 (e_spec_l1Labels.F [a0]).bind fun r1 =>
 (loopF (fun l2 =>
 if (decide ((gd l2 1).i < ((r1.fld 0).l.length : Int))) then
 if (inb (gd l2 1).i (r1.fld 0).l.length) then
 if (catOk (bytesStr ((.int (IntKind.wrap .u8 ((gd (r1.fld 0).l (gd l2 1).i.toNat).s.length : Int))) :: ([] : List D))) (gd (r1.fld 0).l (gd l2 1).i.toNat).s) then
 if (catOk (gd l2 0).s ((bytesStr ((.int (IntKind.wrap .u8 ((gd (r1.fld 0).l (gd l2 1).i.toNat).s.length : Int))) :: ([] : List D))) ++ (gd (r1.fld 0).l (gd l2 1).i.toNat).s)) then
 ou 0 [(.str ((gd l2 0).s ++ ((bytesStr ((.int (IntKind.wrap .u8 ((gd (r1.fld 0).l (gd l2 1).i.toNat).s.length : Int))) :: ([] : List D))) ++ (gd (r1.fld 0).l (gd l2 1).i.toNat).s))), (.int (IntKind.wrap .i64 ((gd l2 1).i + 1)))]
 else none
 else none
 else none
 else
 ou 1 [(gd l2 0)]) [(D.str []), (.int 0)]).bind fun o2 =>
 sel2 o2.1 (if (catOk (gd o2.2 0).s ([0] : List UInt8)) then
 ou 0 [(.str ((gd o2.2 0).s ++ ([0] : List UInt8)))]
 else none) fun _ => none) := by kernel_rfl
theorem q_spec_l3Bytes (a0 a1 : D) : e_spec_l3Bytes.F [a0, a1] = rn (
 if (a0.i == 1) then
 (e_spec_l1Split.F [a1, (.int 46)]).bind fun r2 =>
 (loopF (fun l3 =>
 if (decide ((gd l3 1).i < (r2.l.length : Int))) then
 if (inb (gd l3 1).i r2.l.length) then
 (e_spec_l1Int.F [(gd r2.l (gd l3 1).i.toNat)]).bind fun r5 =>
 (e_spec_l1In.F [r5, (.int 0), (.int 255)]).bind fun r6 =>
 if (!r6.b) then
 ou 1 []
 else
 (e_spec_l3Number.F [r5, (.int 1)]).bind fun r7 =>
 if (catOk (gd l3 0).s r7.s) then
 ou 0 [(.str ((gd l3 0).s ++ r7.s)), (.int (IntKind.wrap .i64 ((gd l3 1).i + 1)))]
 else none
 else none
 else
 ou 2 [(gd l3 0)]) [(D.str []), (.int 0)]).bind fun o3 =>
 sel2 o3.1 (ou 0 [(.pair (D.str []) (.pair (.bool false) .unit))]) fun n4 =>
 sel2 n4 (ou 0 [(.pair (gd o3.2 0) (.pair (.bool ((r2.l.length : Int) == 4)) .unit))]) fun _ => none
 else
 (if (a0.i == 2) then
 ou 0 [(.bool (a0.i == 2))]
 else
 ou 0 [(.bool (a0.i == 5))]).bind fun o2 =>
 sel2 o2.1 (if (gd o2.2 0).b then
 (e_spec_l3Target.F [a1]).bind fun r3 =>
 if (!r3.b) then
 ou 0 [(.pair (D.str []) (.pair (.bool false) .unit))]
 else
 (e_spec_l2Bytes.F [a1]).bind fun r4 =>
 ou 0 [(.pair r4 (.pair (.bool true) .unit))]
 else
 if (a0.i == 6) then
 (e_spec_l1Int.F [a1]).bind fun r3 =>
 (e_spec_l3Number.F [r3, (.int 4)]).bind fun r4 =>
 (e_spec_l1In.F [r3, (.int 0), (.int 4294967295)]).bind fun r5 =>
 ou 0 [(.pair r4 (.pair r5 .unit))]
 else
 if (a0.i == 15) then
 (e_spec_l1Split.F [a1, (.int 32)]).bind fun r3 =>
 (if ((r3.l.length : Int) != 2) then
 ou 0 [(.bool true)]
 else
 if (inb 0 r3.l.length) then
 (e_spec_l1Int.F [(gd r3.l 0)]).bind fun r4 =>
 (e_spec_l1In.F [r4, (.int 0), (.int 65535)]).bind fun r5 =>
 if (!r5.b) then
 ou 0 [(.bool true)]
 else
 if (inb 1 r3.l.length) then
 (e_spec_l3Target.F [(gd r3.l 1)]).bind fun r6 =>
 ou 0 [(.bool (!r6.b))]
 else none
 else none).bind fun o4 =>
 sel2 o4.1 (if (gd o4.2 0).b then
 ou 0 [(.pair (D.str []) (.pair (.bool false) .unit))]
 else
 if (inb 0 r3.l.length) then
 (e_spec_l1Int.F [(gd r3.l 0)]).bind fun r5 =>
 (e_spec_l3Number.F [r5, (.int 2)]).bind fun r6 =>
 if (inb 1 r3.l.length) then
 (e_spec_l2Bytes.F [(gd r3.l 1)]).bind fun r7 =>
 if (catOk r6.s r7.s) then
 ou 0 [(.pair (.str (r6.s ++ r7.s)) (.pair (.bool true) .unit))]
 else none
 else none
 else none) fun _ => none
 else
 if (a0.i == 16) then
 (loopF (fun l3 =>
 if (decide ((gd l3 0).i < (a1.s.length : Int))) then
 (if (inb (gd l3 0).i a1.s.length) then
 if (decide ((byteAt a1.s (gd l3 0).i.toNat : Int) < 32)) then
 ou 0 [(.bool true)]
 else
 ou 0 [(.bool (decide ((byteAt a1.s (gd l3 0).i.toNat : Int) > 126)))]
 else none).bind fun o4 =>
 sel2 o4.1 (if (gd o4.2 0).b then
 ou 1 [(D.str []), (.bool false)]
 else
 ou 0 [(.int (IntKind.wrap .i64 ((gd l3 0).i + 1)))]) fun _ => none
 else
 ou 2 []) [(.int 0)]).bind fun o3 =>
 sel2 o3.1 (ou 0 [(.pair (gd o3.2 0) (.pair (gd o3.2 1) .unit))]) fun n14 =>
 sel2 n14 (if (catOk (bytesStr ((.int (IntKind.wrap .u8 (a1.s.length : Int))) :: ([] : List D))) a1.s) then
 ou 0 [(.pair (.str ((bytesStr ((.int (IntKind.wrap .u8 (a1.s.length : Int))) :: ([] : List D))) ++ a1.s)) (.pair (.bool (decide ((a1.s.length : Int) ≤ 30))) .unit))]
 else none) fun _ => none
 else
 ou 0 [(.pair (D.str []) (.pair (.bool false) .unit))]) fun _ => none) := by kernel_rfl
theorem q_spec_GoodPolicy (a0 : D) : e_spec_GoodPolicy.F [a0] = rn (
 (loopF (fun l1 =>
 if (decide ((gd l1 0).i < ((a0.fld 1).l.length : Int))) then
 if (inb (gd l1 0).i (a0.fld 1).l.length) then
 (e_spec_l3Bytes.F [(.int 1), ((gd (a0.fld 1).l (gd l1 0).i.toNat).fld 1)]).bind fun r2 =>
 (if (!(r2.fld 1).b) then
 ou 0 [(.bool true)]
 else
 (e_spec_GoodName.F [((gd (a0.fld 1).l (gd l1 0).i.toNat).fld 0)]).bind fun r3 =>
 if (!r3.b) then
 ou 0 [(.bool true)]
 else
 (e_spec_l1In.F [((gd (a0.fld 1).l (gd l1 0).i.toNat).fld 2), (.int 0), (.int 9)]).bind fun r4 =>
 if (!r4.b) then
 ou 0 [(.bool true)]
 else
 (e_spec_l1In.F [((gd (a0.fld 1).l (gd l1 0).i.toNat).fld 3), (.int 1), (.int 50)]).bind fun r5 =>
 ou 0 [(.bool (!r5.b))]).bind fun o3 =>
 sel2 o3.1 (if (gd o3.2 0).b then
 ou 1 []
 else
 ou 0 [(.int (IntKind.wrap .i64 ((gd l1 0).i + 1)))]) fun _ => none
 else none
 else
 ou 2 []) [(.int 0)]).bind fun o1 =>
 sel2 o1.1 (ou 0 [(.bool false)]) fun n2 =>
 sel2 n2 (((e_spec_GoodName.F [(a0.fld 0)]).bind fun r1 =>
 if r1.b then
 (e_spec_l1In.F [(.int ((a0.fld 1).l.length : Int)), (.int 1), (.int 12)]).bind fun r2 =>
 ou 0 [r2]
 else
 ou 0 [(.bool false)]).bind fun o1 =>
 sel2 o1.1 (ou 0 [(gd o1.2 0)]) fun _ => none) fun _ => none) := by kernel_rfl
theorem q_spec_l1Has (a0 a1 : D) : e_spec_l1Has.F [a0, a1] = rn (
 (loopF (fun l2 =>
 if (decide ((gd l2 0).i < (a0.l.length : Int))) then
 if (inb (gd l2 0).i a0.l.length) then
 if ((gd a0.l (gd l2 0).i.toNat).i == a1.i) then
 ou 1 [(.bool true)]
 else
 ou 0 [(.int (IntKind.wrap .i64 ((gd l2 0).i + 1)))]
 else none
 else
 ou 2 []) [(.int 0)]).bind fun o2 =>
 sel2 o2.1 (ou 0 [(gd o2.2 0)]) fun n2 =>
 sel2 n2 (ou 0 [(.bool false)]) fun _ => none) := by kernel_rfl
theorem q_spec_l14Groups (a0 : D) : e_spec_l14Groups.F [a0] = rn (
 (loopF (fun l1 =>
 if (decide ((gd l1 1).i < 10)) then
 (loopF (fun l3 =>
 if (decide ((gd l3 1).i < ((a0.fld 1).l.length : Int))) then
 (if (inb (gd l3 1).i (a0.fld 1).l.length) then
 (if (((gd (a0.fld 1).l (gd l3 1).i.toNat).fld 2).i == (gd l1 1).i) then
 (e_spec_l1Has.F [(gd l3 0), (gd l1 1)]).bind fun r5 =>
 ou 0 [(.bool (!r5.b))]
 else
 ou 0 [(.bool false)]).bind fun o5 =>
 sel2 o5.1 (if (gd o5.2 0).b then
 if (appOk 8 (gd l3 0).l ((gd l1 1) :: ([] : List D))) then
 ou 0 [(D.lst ((gd l3 0).l ++ ((gd l1 1) :: ([] : List D))))]
 else none
 else
 ou 0 [(gd l3 0)]) fun _ => none
 else none).bind fun o5 =>
 sel2 o5.1 (ou 0 [(gd o5.2 0), (.int (IntKind.wrap .i64 ((gd l3 1).i + 1)))]) fun _ => none
 else
 ou 1 [(gd l3 0)]) [(gd l1 0), (.int 0)]).bind fun o3 =>
 sel2 o3.1 (ou 0 [(gd o3.2 0), (.int (IntKind.wrap .i64 ((gd l1 1).i + 1)))]) fun _ => none
 else
 ou 1 [(gd l1 0)]) [(D.lst []), (.int 0)]).bind fun o1 =>
 sel2 o1.1 (ou 0 [(gd o1.2 0)]) fun _ => none) := by kernel_rfl
theorem q_spec_IsUp (a0 a1 : D) : e_spec_IsUp.F [a0, a1] = rn (
 (e_spec_GoodHealth.F [a0]).bind fun r2 =>
 if (!r2.b) then
 ou 0 [(.pair (.bool false) (.pair (.bool false) .unit))]
 else
 (loopF (fun l3 =>
 if (decide ((gd l3 0).i < ((a0.fld 2).l.length : Int))) then
 if (inb (gd l3 0).i (a0.fld 2).l.length) then
 if (((gd (a0.fld 2).l (gd l3 0).i.toNat).fld 0).s == a1.s) then
 ou 1 [((gd (a0.fld 2).l (gd l3 0).i.toNat).fld 1), (.bool true)]
 else
 ou 0 [(.int (IntKind.wrap .i64 ((gd l3 0).i + 1)))]
 else none
 else
 ou 2 []) [(.int 0)]).bind fun o3 =>
 sel2 o3.1 (ou 0 [(.pair (gd o3.2 0) (.pair (gd o3.2 1) .unit))]) fun n4 =>
 sel2 n4 (ou 0 [(.pair (.bool false) (.pair (.bool false) .unit))]) fun _ => none) := by kernel_rfl
theorem q_spec_l14Well (a0 a1 : D) : e_spec_l14Well.F [a0, a1] = rn (
 (e_spec_IsUp.F [a0, a1]).bind fun r2 =>
 (if (r2.fld 0).b then
 ou 0 [(.bool true)]
 else
 ou 0 [(.bool (!(r2.fld 1).b))]).bind fun o3 =>
 sel2 o3.1 (ou 0 [(gd o3.2 0)]) fun _ => none) := by kernel_rfl
theorem q_spec_l14Group (a0 a1 : D) : e_spec_l14Group.F [a0, a1] = rn (
 (e_spec_l14Groups.F [a0]).bind fun r2 =>
 (loopF (fun l3 =>
 if (decide ((gd l3 0).i < (r2.l.length : Int))) then
 if (inb (gd l3 0).i r2.l.length) then
 (loopF (fun l4 =>
 if (decide ((gd l4 0).i < ((a0.fld 1).l.length : Int))) then
 if (inb (gd l4 0).i (a0.fld 1).l.length) then
 (if (((gd (a0.fld 1).l (gd l4 0).i.toNat).fld 2).i == (gd r2.l (gd l3 0).i.toNat).i) then
 (e_spec_l14Well.F [a1, ((gd (a0.fld 1).l (gd l4 0).i.toNat).fld 0)]).bind fun r5 =>
 ou 0 [r5]
 else
 ou 0 [(.bool false)]).bind fun o5 =>
 sel2 o5.1 (if (gd o5.2 0).b then
 ou 1 [(gd r2.l (gd l3 0).i.toNat)]
 else
 ou 0 [(.int (IntKind.wrap .i64 ((gd l4 0).i + 1)))]) fun _ => none
 else none
 else
 ou 2 []) [(.int 0)]).bind fun o4 =>
 sel2 o4.1 (ou 1 [(gd o4.2 0)]) fun n8 =>
 sel2 n8 (ou 0 [(.int (IntKind.wrap .i64 ((gd l3 0).i + 1)))]) fun _ => none
 else none
 else
 ou 2 []) [(.int 0)]).bind fun o3 =>
 sel2 o3.1 (ou 0 [(gd o3.2 0)]) fun n2 =>
 sel2 n2 ((e_spec_l14Groups.F [a0]).bind fun r3 =>
 if (inb 0 r3.l.length) then
 ou 0 [(gd r3.l 0)]
 else none) fun _ => none) := by kernel_rfl
theorem q_spec_l14Candidates (a0 a1 : D) : e_spec_l14Candidates.F [a0, a1] = rn (
 (e_spec_l14Group.F [a0, a1]).bind fun r2 =>
 (loopF (fun l3 =>
 if (decide ((gd l3 2).i < ((a0.fld 1).l.length : Int))) then
 (if (inb (gd l3 2).i (a0.fld 1).l.length) then
 if (((gd (a0.fld 1).l (gd l3 2).i.toNat).fld 2).i != r2.i) then
 ou 0 [(gd l3 0), (gd l3 1)]
 else
 if (appOk 8 (gd l3 1).l ((gd l3 2) :: ([] : List D))) then
 (e_spec_l14Well.F [a1, ((gd (a0.fld 1).l (gd l3 2).i.toNat).fld 0)]).bind fun r6 =>
 if r6.b then
 if (appOk 8 (gd l3 0).l ((gd l3 2) :: ([] : List D))) then
 ou 0 [(D.lst ((gd l3 0).l ++ ((gd l3 2) :: ([] : List D)))), (D.lst ((gd l3 1).l ++ ((gd l3 2) :: ([] : List D))))]
 else none
 else
 ou 0 [(gd l3 0), (D.lst ((gd l3 1).l ++ ((gd l3 2) :: ([] : List D))))]
 else none
 else none).bind fun o6 =>
 sel2 o6.1 (ou 0 [(gd o6.2 0), (gd o6.2 1), (.int (IntKind.wrap .i64 ((gd l3 2).i + 1)))]) fun _ => none
 else
 ou 1 [(gd l3 0), (gd l3 1)]) [(D.lst []), (D.lst []), (.int 0)]).bind fun o3 =>
 sel2 o3.1 (if (((gd o3.2 0).l.length : Int) == 0) then
 ou 0 [(gd o3.2 1)]
 else
 ou 0 [(gd o3.2 0)]) fun _ => none) := by kernel_rfl
theorem q_spec_l12Total (a0 : D) : e_spec_l12Total.F [a0] = rn (
 (loopF (fun l1 =>
 if (decide ((gd l1 1).i < (a0.l.length : Int))) then
 if (inb (gd l1 1).i a0.l.length) then
 ou 0 [(.int (IntKind.wrap .i64 ((gd l1 0).i + (gd a0.l (gd l1 1).i.toNat).i))), (.int (IntKind.wrap .i64 ((gd l1 1).i + 1)))]
 else none
 else
 ou 1 [(gd l1 0)]) [(.int 0), (.int 0)]).bind fun o1 =>
 sel2 o1.1 (ou 0 [(gd o1.2 0)]) fun _ => none) := by kernel_rfl
theorem q_spec_SharesOf (a0 a1 : D) : e_spec_SharesOf.F [a0, a1] = rn (
 ((e_spec_GoodPolicy.F [a0]).bind fun r2 =>
 if (!r2.b) then
 ou 0 [(.bool true)]
 else
 (e_spec_GoodHealth.F [a1]).bind fun r3 =>
 ou 0 [(.bool (!r3.b))]).bind fun o2 =>
 sel2 o2.1 (if (gd o2.2 0).b then
 ou 0 [(.pair (D.lst []) (.pair (.int 0) (.pair (.bool false) .unit)))]
 else
 if (makeOk 8 ((a0.fld 1).l.length : Int)) then
 (e_spec_l14Candidates.F [a0, a1]).bind fun r3 =>
 (loopF (fun l4 =>
 if (decide ((gd l4 1).i < (r3.l.length : Int))) then
 if (inb (gd l4 1).i r3.l.length) then
 if (inb (gd r3.l (gd l4 1).i.toNat).i (a0.fld 1).l.length) then
 if (inb (gd r3.l (gd l4 1).i.toNat).i (gd l4 0).l.length) then
 ou 0 [(D.lst ((gd l4 0).l.set (gd r3.l (gd l4 1).i.toNat).i.toNat ((gd (a0.fld 1).l (gd r3.l (gd l4 1).i.toNat).i.toNat).fld 3))), (.int (IntKind.wrap .i64 ((gd l4 1).i + 1)))]
 else none
 else none
 else none
 else
 ou 1 [(gd l4 0)]) [(D.lst (List.replicate ((a0.fld 1).l.length : Int).toNat (.int 0))), (.int 0)]).bind fun o4 =>
 sel2 o4.1 ((e_spec_l12Total.F [(gd o4.2 0)]).bind fun r5 =>
 ou 0 [(.pair (gd o4.2 0) (.pair r5 (.pair (.bool true) .unit)))]) fun _ => none
 else none) fun _ => none) := by kernel_rfl
theorem q_impl_CandidatesOf (a0 a1 : D) : e_impl_CandidatesOf.F [a0, a1] = rn (
 ((e_impl_GoodPolicy.F [a0]).bind fun r2 =>
 if (!r2.b) then
 ou 0 [(.bool true)]
 else
 (e_impl_GoodHealth.F [a1]).bind fun r3 =>
 ou 0 [(.bool (!r3.b))]).bind fun o2 =>
 sel2 o2.1 (if (gd o2.2 0).b then
 ou 0 [(.pair (D.lst []) (.pair (.bool false) .unit))]
 else
 (e_impl_candidatesOf.F [a0, a1]).bind fun r3 =>
 ou 0 [(.pair r3 (.pair (.bool true) .unit))]) fun _ => none) := by kernel_rfl
theorem q_laws_sameInts (a0 a1 : D) : e_laws_sameInts.F [a0, a1] = rn (
 if ((a0.l.length : Int) != (a1.l.length : Int)) then
 ou 0 [(.bool false)]
 else
 (loopF (fun l2 =>
 if (decide ((gd l2 0).i < (a0.l.length : Int))) then
 if (inb (gd l2 0).i a0.l.length) then
 if (inb (gd l2 0).i a1.l.length) then
 if ((gd a0.l (gd l2 0).i.toNat).i != (gd a1.l (gd l2 0).i.toNat).i) then
 ou 1 []
 else
 ou 0 [(.int (IntKind.wrap .i64 ((gd l2 0).i + 1)))]
 else none
 else none
 else
 ou 2 []) [(.int 0)]).bind fun o2 =>
 sel2 o2.1 (ou 0 [(.bool false)]) fun n4 =>
 sel2 n4 (ou 0 [(.bool true)]) fun _ => none) := by kernel_rfl
theorem q_impl_isCounter (a0 : D) : e_impl_isCounter.F [a0] = rn (
 (e_impl_within.F [a0, (.int 0), (.int 1152921504606846976)]).bind fun r1 =>
 ou 0 [r1]) := by kernel_rfl
theorem q_impl_aliasOf_1 (a0 a1 : D) : e_impl_aliasOf_1.F [a0, a1] = rn (
 ou 0 [(.bool (decide (a0.i > a1.i)))]) := by kernel_rfl
theorem q_slices_IndexFunc_int_int__impl_aliasOf_1 (a0 a1 : D) : e_slices_IndexFunc_int_int__impl_aliasOf_1.F [a0, a1] = rn (
 (loopF (fun l2 =>
 if (decide ((gd l2 0).i < (a0.l.length : Int))) then
 if (inb (gd l2 0).i a0.l.length) then
 (e_impl_aliasOf_1.F [(gd a0.l (gd l2 0).i.toNat), (a1.fld 0)]).bind fun r3 =>
 if r3.b then
 ou 1 [(gd l2 0)]
 else
 ou 0 [(.int (IntKind.wrap .i64 ((gd l2 0).i + 1)))]
 else none
 else
 ou 2 []) [(.int 0)]).bind fun o2 =>
 sel2 o2.1 (ou 0 [(gd o2.2 0)]) fun n2 =>
 sel2 n2 (ou 0 [(.int (-1))]) fun _ => none) := by kernel_rfl
theorem q_impl_aliasOf (a0 : D) : e_impl_aliasOf.F [a0] = rn (
 (e_impl_totalOf.F [a0]).bind fun r1 =>
 (loopF (fun l2 =>
 if (decide ((gd l2 2).i < (a0.l.length : Int))) then
 if (inb (gd l2 2).i a0.l.length) then
 if (appOk 8 (gd l2 0).l ((.int (IntKind.wrap .i64 ((gd a0.l (gd l2 2).i.toNat).i * (a0.l.length : Int)))) :: ([] : List D))) then
 if (appOk 16 (gd l2 1).l ((.pair r1 (.pair (gd l2 2) .unit)) :: ([] : List D))) then
 ou 0 [(D.lst ((gd l2 0).l ++ ((.int (IntKind.wrap .i64 ((gd a0.l (gd l2 2).i.toNat).i * (a0.l.length : Int)))) :: ([] : List D)))), (D.lst ((gd l2 1).l ++ ((.pair r1 (.pair (gd l2 2) .unit)) :: ([] : List D)))), (.int (IntKind.wrap .i64 ((gd l2 2).i + 1)))]
 else none
 else none
 else none
 else
 ou 1 [(gd l2 0), (gd l2 1)]) [(D.lst []), (D.lst []), (.int 0)]).bind fun o2 =>
 sel2 o2.1 (if (makeOk 1 (a0.l.length : Int)) then
 (loopF (fun l4 =>
 (loopF (fun l7 =>
 if (decide ((gd l7 0).i < ((gd l4 0).l.length : Int))) then
 if (inb (gd l7 0).i (gd l4 0).l.length) then
 (if (inb (gd l7 0).i (gd l4 2).l.length) then
 if (!(gd (gd l4 2).l (gd l7 0).i.toNat).b) then
 ou 0 [(.bool (decide ((gd (gd l4 0).l (gd l7 0).i.toNat).i < r1.i)))]
 else
 ou 0 [(.bool false)]
 else none).bind fun o8 =>
 sel2 o8.1 (if (gd o8.2 0).b then
 ou 1 [(gd l7 0)]
 else
 ou 0 [(.int (IntKind.wrap .i64 ((gd l7 0).i + 1)))]) fun _ => none
 else none
 else
 ou 1 [(.int (-1))]) [(.int 0)]).bind fun o7 =>
 sel2 o7.1 (if (decide ((gd o7.2 0).i < 0)) then
 ou 1 [(gd l4 1)]
 else
 (e_slices_IndexFunc_int_int__impl_aliasOf_1.F [(gd l4 0), (.pair r1 .unit)]).bind fun r8 =>
 if (inb (gd o7.2 0).i (gd l4 0).l.length) then
 if (inb (gd o7.2 0).i (gd l4 1).l.length) then
 if (inb r8.i (gd l4 0).l.length) then
 if (inb (gd o7.2 0).i (gd l4 2).l.length) then
 ou 0 [(D.lst ((gd l4 0).l.set r8.i.toNat (.int (IntKind.wrap .i64 ((gd (gd l4 0).l r8.i.toNat).i - (IntKind.wrap .i64 (r1.i - (gd (gd l4 0).l (gd o7.2 0).i.toNat).i))))))), (D.lst ((gd l4 1).l.set (gd o7.2 0).i.toNat (.pair (gd (gd l4 0).l (gd o7.2 0).i.toNat) (.pair r8 .unit)))), (D.lst ((gd l4 2).l.set (gd o7.2 0).i.toNat (.bool true)))]
 else none
 else none
 else none
 else none) fun _ => none) [(gd o2.2 0), (gd o2.2 1), (D.lst (List.replicate (a0.l.length : Int).toNat (.bool false)))]).bind fun o4 =>
 sel2 o4.1 (ou 0 [(gd o4.2 0)]) fun _ => none
 else none) fun _ => none) := by kernel_rfl
theorem q_impl_pickBy (a0 a1 a2 : D) : e_impl_pickBy.F [a0, a1, a2] = rn (
 if (a1.i != 0) then
 if (inb (IntKind.wrap .i64 (a2.i.tdiv a1.i)) a0.l.length) then
 if (decide ((a2.i.tmod a1.i) < ((gd a0.l (IntKind.wrap .i64 (a2.i.tdiv a1.i)).toNat).fld 0).i)) then
 ou 0 [(.int (IntKind.wrap .i64 (a2.i.tdiv a1.i)))]
 else
 ou 0 [((gd a0.l (IntKind.wrap .i64 (a2.i.tdiv a1.i)).toNat).fld 1)]
 else none
 else none) := by kernel_rfl
theorem q_impl_ChooseTarget (a0 a1 a2 : D) : e_impl_ChooseTarget.F [a0, a1, a2] = rn (
 ((e_impl_GoodPolicy.F [a0]).bind fun r3 =>
 if (!r3.b) then
 ou 0 [(.bool true)]
 else
 (e_impl_GoodHealth.F [a1]).bind fun r4 =>
 if (!r4.b) then
 ou 0 [(.bool true)]
 else
 (e_impl_isCounter.F [a2]).bind fun r5 =>
 ou 0 [(.bool (!r5.b))]).bind fun o3 =>
 sel2 o3.1 (if (gd o3.2 0).b then
 ou 0 [(.pair (.int 0) (.pair (.bool false) .unit))]
 else
 (e_impl_candidatesOf.F [a0, a1]).bind fun r4 =>
 (loopF (fun l5 =>
 if (decide ((gd l5 1).i < (r4.l.length : Int))) then
 if (inb (gd l5 1).i r4.l.length) then
 if (inb (gd r4.l (gd l5 1).i.toNat).i (a0.fld 1).l.length) then
 if (appOk 8 (gd l5 0).l (((gd (a0.fld 1).l (gd r4.l (gd l5 1).i.toNat).i.toNat).fld 3) :: ([] : List D))) then
 ou 0 [(D.lst ((gd l5 0).l ++ (((gd (a0.fld 1).l (gd r4.l (gd l5 1).i.toNat).i.toNat).fld 3) :: ([] : List D)))), (.int (IntKind.wrap .i64 ((gd l5 1).i + 1)))]
 else none
 else none
 else none
 else
 ou 1 [(gd l5 0)]) [(D.lst []), (.int 0)]).bind fun o5 =>
 sel2 o5.1 ((e_impl_totalOf.F [(gd o5.2 0)]).bind fun r6 =>
 (e_impl_aliasOf.F [(gd o5.2 0)]).bind fun r7 =>
 if ((IntKind.wrap .i64 ((r4.l.length : Int) * r6.i)) != 0) then
 (e_impl_pickBy.F [r7, r6, (.int (a2.i.tmod (IntKind.wrap .i64 ((r4.l.length : Int) * r6.i))))]).bind fun r8 =>
 if (inb r8.i r4.l.length) then
 ou 0 [(.pair (gd r4.l r8.i.toNat) (.pair (.bool true) .unit))]
 else none
 else none) fun _ => none) fun _ => none) := by kernel_rfl
theorem q_laws_FnShares (a0 : D) : e_laws_FnShares.F [a0] = rn (
 if (decide ((a0.l.length : Int) > 1048576)) then
 ou 0 [(.bool true)]
 else
 (e_spec_DrawSharesOf.F [a0]).bind fun r1 =>
 (e_impl_SharesOf.F [(r1.fld 0), (r1.fld 1)]).bind fun r2 =>
 (e_spec_SharesOf.F [(r1.fld 0), (r1.fld 1)]).bind fun r3 =>
 (e_impl_CandidatesOf.F [(r1.fld 0), (r1.fld 1)]).bind fun r4 =>
 (if (!((r2.fld 2).b == (r3.fld 2).b)) then
 ou 0 [(.bool true)]
 else
 if ((r2.fld 1).i != (r3.fld 1).i) then
 ou 0 [(.bool true)]
 else
 (e_laws_sameInts.F [(r2.fld 0), (r3.fld 0)]).bind fun r5 =>
 if (!r5.b) then
 ou 0 [(.bool true)]
 else
 ou 0 [(.bool (!((r4.fld 1).b == (r3.fld 2).b)))]).bind fun o5 =>
 sel2 o5.1 (if (gd o5.2 0).b then
 ou 0 [(.bool false)]
 else
 if (!(r2.fld 2).b) then
 ou 0 [(.bool ((r2.fld 1).i == 0))]
 else
 if (decide ((r2.fld 1).i > 40)) then
 ou 0 [(.bool true)]
 else
 if (makeOk 8 (((r1.fld 0).fld 1).l.length : Int)) then
 (loopF (fun l6 =>
 if (decide ((gd l6 1).i < (IntKind.wrap .i64 (((r4.fld 0).l.length : Int) * (r2.fld 1).i)))) then
 (e_impl_ChooseTarget.F [(r1.fld 0), (r1.fld 1), (gd l6 1)]).bind fun r8 =>
 if (!(r8.fld 1).b) then
 ou 1 [(.bool false)]
 else
 if (inb (r8.fld 0).i (gd l6 0).l.length) then
 ou 0 [(D.lst ((gd l6 0).l.set (r8.fld 0).i.toNat (.int (IntKind.wrap .i64 ((gd (gd l6 0).l (r8.fld 0).i.toNat).i + 1))))), (.int (IntKind.wrap .i64 ((gd l6 1).i + 1)))]
 else none
 else
 ou 2 [(gd l6 0)]) [(D.lst (List.replicate (((r1.fld 0).fld 1).l.length : Int).toNat (.int 0))), (.int 0)]).bind fun o6 =>
 sel2 o6.1 (ou 0 [(gd o6.2 0)]) fun n12 =>
 sel2 n12 ((loopF (fun l7 =>
 if (decide ((gd l7 0).i < ((gd o6.2 0).l.length : Int))) then
 if (inb (gd l7 0).i (gd o6.2 0).l.length) then
 if (inb (gd l7 0).i (r2.fld 0).l.length) then
 if ((gd (gd o6.2 0).l (gd l7 0).i.toNat).i != (IntKind.wrap .i64 ((gd (r2.fld 0).l (gd l7 0).i.toNat).i * ((r4.fld 0).l.length : Int)))) then
 ou 1 [(.bool false)]
 else
 ou 0 [(.int (IntKind.wrap .i64 ((gd l7 0).i + 1)))]
 else none
 else none
 else
 ou 2 []) [(.int 0)]).bind fun o7 =>
 sel2 o7.1 (ou 0 [(gd o7.2 0)]) fun n14 =>
 sel2 n14 (ou 0 [(.bool true)]) fun _ => none) fun _ => none
 else none) fun _ => none) := by kernel_rfl
theorem q_spec_DrawChooseTarget (a0 : D) : e_spec_DrawChooseTarget.F [a0] = rn (
 (e_spec_l1Cur_policy.F [(.pair a0 (.pair (.int 0) (.pair (.int 0) .unit)))]).bind fun r1 =>
 (e_spec_l1Cur_health.F [(r1.fld 1)]).bind fun r2 =>
 (e_spec_l1Cur_pick.F [(r2.fld 1), (.int 500)]).bind fun r3 =>
 (e_spec_l1Cur_pick.F [(r3.fld 1), (.int 2)]).bind fun r4 =>
 (e_spec_l1Cur_pick.F [(r4.fld 1), (.int 2)]).bind fun r5 =>
 ou 0 [(.pair (r1.fld 0) (.pair (r2.fld 0) (.pair (.int (IntKind.wrap .i64 ((r3.fld 0).i - (IntKind.wrap .i64 ((r4.fld 0).i * (r5.fld 0).i))))) .unit)))]) := by kernel_rfl
theorem q_spec_l9Counter (a0 : D) : e_spec_l9Counter.F [a0] = rn (
 (e_spec_l1In.F [a0, (.int 0), (.int 1152921504606846976)]).bind fun r1 =>
 ou 0 [r1]) := by kernel_rfl
theorem q_spec_GoodWeights (a0 : D) : e_spec_GoodWeights.F [a0] = rn (
 (loopF (fun l1 =>
 if (decide ((gd l1 1).i < (a0.l.length : Int))) then
 if (inb (gd l1 1).i a0.l.length) then
 (e_spec_l1In.F [(gd a0.l (gd l1 1).i.toNat), (.int 0), (.int 50)]).bind fun r3 =>
 if (!r3.b) then
 ou 1 []
 else
 ou 0 [(.int (IntKind.wrap .i64 ((gd l1 0).i + (gd a0.l (gd l1 1).i.toNat).i))), (.int (IntKind.wrap .i64 ((gd l1 1).i + 1)))]
 else none
 else
 ou 2 [(gd l1 0)]) [(.int 0), (.int 0)]).bind fun o1 =>
 sel2 o1.1 (ou 0 [(.bool false)]) fun n2 =>
 sel2 n2 (((e_spec_l1In.F [(.int (a0.l.length : Int)), (.int 1), (.int 12)]).bind fun r2 =>
 if r2.b then
 ou 0 [(.bool (decide ((gd o1.2 0).i > 0)))]
 else
 ou 0 [(.bool false)]).bind fun o2 =>
 sel2 o2.1 (ou 0 [(gd o2.2 0)]) fun _ => none) fun _ => none) := by kernel_rfl
theorem q_spec_AliasOf (a0 : D) : e_spec_AliasOf.F [a0] = rn (
 (e_spec_GoodWeights.F [a0]).bind fun r1 =>
 if (!r1.b) then
 ou 0 [(.pair (D.lst []) (.pair (.bool false) .unit))]
 else
 (e_spec_l12Total.F [a0]).bind fun r2 =>
 if (makeOk 8 (a0.l.length : Int)) then
 if (makeOk 1 (a0.l.length : Int)) then
 if (makeOk 16 (a0.l.length : Int)) then
 (loopF (fun l3 =>
 if (decide ((gd l3 2).i < (a0.l.length : Int))) then
 if (inb (gd l3 2).i a0.l.length) then
 if (inb (gd l3 2).i (gd l3 0).l.length) then
 if (inb (gd l3 2).i (gd l3 1).l.length) then
 ou 0 [(D.lst ((gd l3 0).l.set (gd l3 2).i.toNat (.int (IntKind.wrap .i64 ((gd a0.l (gd l3 2).i.toNat).i * (a0.l.length : Int)))))), (D.lst ((gd l3 1).l.set (gd l3 2).i.toNat (.pair r2 (.pair (gd l3 2) .unit)))), (.int (IntKind.wrap .i64 ((gd l3 2).i + 1)))]
 else none
 else none
 else none
 else
 ou 1 [(gd l3 0), (gd l3 1)]) [(D.lst (List.replicate (a0.l.length : Int).toNat (.int 0))), (D.lst (List.replicate (a0.l.length : Int).toNat (.pair (.int 0) (.pair (.int 0) .unit)))), (.int 0)]).bind fun o3 =>
 sel2 o3.1 ((loopF (fun l5 =>
 (loopF (fun l8 =>
 if (decide ((gd l8 2).i < ((gd l5 0).l.length : Int))) then
 (if (inb (gd l8 2).i (gd l5 1).l.length) then
 if (gd (gd l5 1).l (gd l8 2).i.toNat).b then
 ou 0 [(gd l8 0), (gd l8 1)]
 else
 ((if (inb (gd l8 2).i (gd l5 0).l.length) then
 if (decide ((gd (gd l5 0).l (gd l8 2).i.toNat).i < r2.i)) then
 ou 0 [(.bool (decide ((gd l8 0).i < 0)))]
 else
 ou 0 [(.bool false)]
 else none).bind fun o11 =>
 sel2 o11.1 (if (gd o11.2 0).b then
 ou 0 [(gd l8 2)]
 else
 ou 0 [(gd l8 0)]) fun _ => none).bind fun o11 =>
 sel2 o11.1 ((if (inb (gd l8 2).i (gd l5 0).l.length) then
 if (decide ((gd (gd l5 0).l (gd l8 2).i.toNat).i > r2.i)) then
 ou 0 [(.bool (decide ((gd l8 1).i < 0)))]
 else
 ou 0 [(.bool false)]
 else none).bind fun o12 =>
 sel2 o12.1 (if (gd o12.2 0).b then
 ou 0 [(gd o11.2 0), (gd l8 2)]
 else
 ou 0 [(gd o11.2 0), (gd l8 1)]) fun _ => none) fun _ => none
 else none).bind fun o11 =>
 sel2 o11.1 (ou 0 [(gd o11.2 0), (gd o11.2 1), (.int (IntKind.wrap .i64 ((gd l8 2).i + 1)))]) fun _ => none
 else
 ou 1 [(gd l8 0), (gd l8 1)]) [(.int (-1)), (.int (-1)), (.int 0)]).bind fun o8 =>
 sel2 o8.1 ((if (decide ((gd o8.2 0).i < 0)) then
 ou 0 [(.bool true)]
 else
 ou 0 [(.bool (decide ((gd o8.2 1).i < 0)))]).bind fun o10 =>
 sel2 o10.1 (if (gd o10.2 0).b then
 ou 1 [(gd l5 2), (.bool true)]
 else
 if (inb (gd o8.2 0).i (gd l5 0).l.length) then
 if (inb (gd o8.2 0).i (gd l5 2).l.length) then
 if (inb (gd o8.2 1).i (gd l5 0).l.length) then
 if (inb (gd o8.2 0).i (gd l5 1).l.length) then
 ou 0 [(D.lst ((gd l5 0).l.set (gd o8.2 1).i.toNat (.int (IntKind.wrap .i64 ((gd (gd l5 0).l (gd o8.2 1).i.toNat).i - (IntKind.wrap .i64 (r2.i - (gd (gd l5 0).l (gd o8.2 0).i.toNat).i))))))), (D.lst ((gd l5 1).l.set (gd o8.2 0).i.toNat (.bool true))), (D.lst ((gd l5 2).l.set (gd o8.2 0).i.toNat (.pair (gd (gd l5 0).l (gd o8.2 0).i.toNat) (.pair (gd o8.2 1) .unit))))]
 else none
 else none
 else none
 else none) fun _ => none) fun _ => none) [(gd o3.2 0), (D.lst (List.replicate (a0.l.length : Int).toNat (.bool false))), (gd o3.2 1)]).bind fun o5 =>
 sel2 o5.1 (ou 0 [(.pair (gd o5.2 0) (.pair (gd o5.2 1) .unit))]) fun _ => none) fun _ => none
 else none
 else none
 else none) := by kernel_rfl
theorem q_spec_GoodAlias (a0 : D) : e_spec_GoodAlias.F [a0] = rn (
 (loopF (fun l1 =>
 if (decide ((gd l1 0).i < (a0.l.length : Int))) then
 if (inb (gd l1 0).i a0.l.length) then
 (if (decide (((gd a0.l (gd l1 0).i.toNat).fld 0).i < 0)) then
 ou 0 [(.bool true)]
 else
 (e_spec_l1In.F [((gd a0.l (gd l1 0).i.toNat).fld 1), (.int 0), (.int (IntKind.wrap .i64 ((a0.l.length : Int) - 1)))]).bind fun r2 =>
 ou 0 [(.bool (!r2.b))]).bind fun o2 =>
 sel2 o2.1 (if (gd o2.2 0).b then
 ou 1 []
 else
 ou 0 [(.int (IntKind.wrap .i64 ((gd l1 0).i + 1)))]) fun _ => none
 else none
 else
 ou 2 []) [(.int 0)]).bind fun o1 =>
 sel2 o1.1 (ou 0 [(.bool false)]) fun n2 =>
 sel2 n2 ((e_spec_l1In.F [(.int (a0.l.length : Int)), (.int 1), (.int 12)]).bind fun r1 =>
 ou 0 [r1]) fun _ => none) := by kernel_rfl
theorem q_spec_l12Fits (a0 a1 : D) : e_spec_l12Fits.F [a0, a1] = rn (
 (loopF (fun l2 =>
 if (decide ((gd l2 0).i < (a0.l.length : Int))) then
 if (inb (gd l2 0).i a0.l.length) then
 if (decide (((gd a0.l (gd l2 0).i.toNat).fld 0).i > a1.i)) then
 ou 1 []
 else
 ou 0 [(.int (IntKind.wrap .i64 ((gd l2 0).i + 1)))]
 else none
 else
 ou 2 []) [(.int 0)]).bind fun o2 =>
 sel2 o2.1 (ou 0 [(.bool false)]) fun n2 =>
 sel2 n2 (((e_spec_GoodAlias.F [a0]).bind fun r2 =>
 if r2.b then
 (e_spec_l1In.F [a1, (.int 1), (.int 600)]).bind fun r3 =>
 ou 0 [r3]
 else
 ou 0 [(.bool false)]).bind fun o2 =>
 sel2 o2.1 (ou 0 [(gd o2.2 0)]) fun _ => none) fun _ => none) := by kernel_rfl
theorem q_spec_PickBy (a0 a1 a2 : D) : e_spec_PickBy.F [a0, a1, a2] = rn (
 ((e_spec_l12Fits.F [a0, a1]).bind fun r3 =>
 if (!r3.b) then
 ou 0 [(.bool true)]
 else
 (e_spec_l1In.F [a2, (.int 0), (.int (IntKind.wrap .i64 ((IntKind.wrap .i64 ((a0.l.length : Int) * a1.i)) - 1)))]).bind fun r4 =>
 ou 0 [(.bool (!r4.b))]).bind fun o3 =>
 sel2 o3.1 (if (gd o3.2 0).b then
 ou 0 [(.pair (.int 0) (.pair (.bool false) .unit))]
 else
 if (a1.i != 0) then
 if (inb (IntKind.wrap .i64 (a2.i.tdiv a1.i)) a0.l.length) then
 if (decide ((a2.i.tmod a1.i) < ((gd a0.l (IntKind.wrap .i64 (a2.i.tdiv a1.i)).toNat).fld 0).i)) then
 ou 0 [(.pair (.int (IntKind.wrap .i64 (a2.i.tdiv a1.i))) (.pair (.bool true) .unit))]
 else
 ou 0 [(.pair ((gd a0.l (IntKind.wrap .i64 (a2.i.tdiv a1.i)).toNat).fld 1) (.pair (.bool true) .unit))]
 else none
 else none) fun _ => none) := by kernel_rfl
theorem q_spec_ChooseTarget (a0 a1 a2 : D) : e_spec_ChooseTarget.F [a0, a1, a2] = rn (
 ((e_spec_GoodPolicy.F [a0]).bind fun r3 =>
 if (!r3.b) then
 ou 0 [(.bool true)]
 else
 (e_spec_GoodHealth.F [a1]).bind fun r4 =>
 if (!r4.b) then
 ou 0 [(.bool true)]
 else
 (e_spec_l9Counter.F [a2]).bind fun r5 =>
 ou 0 [(.bool (!r5.b))]).bind fun o3 =>
 sel2 o3.1 (if (gd o3.2 0).b then
 ou 0 [(.pair (.int 0) (.pair (.bool false) .unit))]
 else
 (e_spec_l14Candidates.F [a0, a1]).bind fun r4 =>
 (loopF (fun l5 =>
 if (decide ((gd l5 1).i < (r4.l.length : Int))) then
 if (inb (gd l5 1).i r4.l.length) then
 if (inb (gd r4.l (gd l5 1).i.toNat).i (a0.fld 1).l.length) then
 if (appOk 8 (gd l5 0).l (((gd (a0.fld 1).l (gd r4.l (gd l5 1).i.toNat).i.toNat).fld 3) :: ([] : List D))) then
 ou 0 [(D.lst ((gd l5 0).l ++ (((gd (a0.fld 1).l (gd r4.l (gd l5 1).i.toNat).i.toNat).fld 3) :: ([] : List D)))), (.int (IntKind.wrap .i64 ((gd l5 1).i + 1)))]
 else none
 else none
 else none
 else
 ou 1 [(gd l5 0)]) [(D.lst []), (.int 0)]).bind fun o5 =>
 sel2 o5.1 ((e_spec_AliasOf.F [(gd o5.2 0)]).bind fun r6 =>
 (e_spec_l12Total.F [(gd o5.2 0)]).bind fun r7 =>
 if ((IntKind.wrap .i64 ((r4.l.length : Int) * r7.i)) != 0) then
 (e_spec_PickBy.F [(r6.fld 0), r7, (.int (a2.i.tmod (IntKind.wrap .i64 ((r4.l.length : Int) * r7.i))))]).bind fun r8 =>
 if (!(r8.fld 1).b) then
 ou 0 [(.pair (.int 0) (.pair (.bool false) .unit))]
 else
 if (inb (r8.fld 0).i r4.l.length) then
 ou 0 [(.pair (gd r4.l (r8.fld 0).i.toNat) (.pair (.bool true) .unit))]
 else none
 else none) fun _ => none) fun _ => none) := by kernel_rfl
theorem q_impl_GroupOf (a0 a1 : D) : e_impl_GroupOf.F [a0, a1] = rn (
 ((e_impl_GoodPolicy.F [a0]).bind fun r2 =>
 if (!r2.b) then
 ou 0 [(.bool true)]
 else
 (e_impl_GoodHealth.F [a1]).bind fun r3 =>
 ou 0 [(.bool (!r3.b))]).bind fun o2 =>
 sel2 o2.1 (if (gd o2.2 0).b then
 ou 0 [(.pair (.int 0) (.pair (.bool false) .unit))]
 else
 (e_impl_groupOf.F [a0, a1]).bind fun r3 =>
 ou 0 [(.pair r3 (.pair (.bool true) .unit))]) fun _ => none) := by kernel_rfl
theorem q_spec_GroupOf (a0 a1 : D) : e_spec_GroupOf.F [a0, a1] = rn (
 ((e_spec_GoodPolicy.F [a0]).bind fun r2 =>
 if (!r2.b) then
 ou 0 [(.bool true)]
 else
 (e_spec_GoodHealth.F [a1]).bind fun r3 =>
 ou 0 [(.bool (!r3.b))]).bind fun o2 =>
 sel2 o2.1 (if (gd o2.2 0).b then
 ou 0 [(.pair (.int 0) (.pair (.bool false) .unit))]
 else
 (e_spec_l14Group.F [a0, a1]).bind fun r3 =>
 ou 0 [(.pair r3 (.pair (.bool true) .unit))]) fun _ => none) := by kernel_rfl
theorem q_spec_CandidatesOf (a0 a1 : D) : e_spec_CandidatesOf.F [a0, a1] = rn (
 ((e_spec_GoodPolicy.F [a0]).bind fun r2 =>
 if (!r2.b) then
 ou 0 [(.bool true)]
 else
 (e_spec_GoodHealth.F [a1]).bind fun r3 =>
 ou 0 [(.bool (!r3.b))]).bind fun o2 =>
 sel2 o2.1 (if (gd o2.2 0).b then
 ou 0 [(.pair (D.lst []) (.pair (.bool false) .unit))]
 else
 (e_spec_l14Candidates.F [a0, a1]).bind fun r3 =>
 ou 0 [(.pair r3 (.pair (.bool true) .unit))]) fun _ => none) := by kernel_rfl
theorem q_impl_AnswerOf (a0 a1 a2 : D) : e_impl_AnswerOf.F [a0, a1, a2] = rn (
 (e_impl_ChooseTarget.F [a0, a1, a2]).bind fun r3 =>
 if (!(r3.fld 1).b) then
 ou 0 [(.pair (.pair (.str []) (.pair (.int 0) (.pair (.int 0) (.pair (.str []) .unit)))) (.pair (.bool false) .unit))]
 else
 if (inb (r3.fld 0).i (a0.fld 1).l.length) then
 ou 0 [(.pair (.pair (a0.fld 0) (.pair (.int 1) (.pair (.int 5) (.pair ((gd (a0.fld 1).l (r3.fld 0).i.toNat).fld 1) .unit)))) (.pair (.bool true) .unit))]
 else none) := by kernel_rfl
theorem q_impl_GoodRecord (a0 : D) : e_impl_GoodRecord.F [a0] = rn (
 ((e_impl_GoodName.F [(a0.fld 0)]).bind fun r1 =>
 if (!r1.b) then
 ou 0 [(.bool true)]
 else
 (e_impl_within.F [(a0.fld 2), (.int 0), (.int 100000)]).bind fun r2 =>
 if (!r2.b) then
 ou 0 [(.bool true)]
 else
 ou 0 [(.bool (decide (((a0.fld 3).s.length : Int) > 100)))]).bind fun o1 =>
 sel2 o1.1 (if (gd o1.2 0).b then
 ou 0 [(.bool false)]
 else
 (e_impl_DataBytes.F [(a0.fld 1), (a0.fld 3)]).bind fun r2 =>
 ou 0 [(r2.fld 1)]) fun _ => none) := by kernel_rfl
theorem q_impl_IsUp (a0 a1 : D) : e_impl_IsUp.F [a0, a1] = rn (
 (e_impl_GoodHealth.F [a0]).bind fun r2 =>
 if (!r2.b) then
 ou 0 [(.pair (.bool false) (.pair (.bool false) .unit))]
 else
 (e_impl_Health_findHost.F [a0, a1]).bind fun r3 =>
 if (decide (r3.i < 0)) then
 ou 0 [(.pair (.bool false) (.pair (.bool false) .unit))]
 else
 if (inb r3.i (a0.fld 2).l.length) then
 ou 0 [(.pair ((gd (a0.fld 2).l r3.i.toNat).fld 1) (.pair (.bool true) .unit))]
 else none) := by kernel_rfl
theorem q_spec_DrawGoodPolicy (a0 : D) : e_spec_DrawGoodPolicy.F [a0] = rn (
 (e_spec_l1Cur_policy.F [(.pair a0 (.pair (.int 0) (.pair (.int 0) .unit)))]).bind fun r1 =>
 ou 0 [(r1.fld 0)]) := by kernel_rfl
theorem q_spec_DrawGroupsIn (a0 : D) : e_spec_DrawGroupsIn.F [a0] = rn (
 (e_spec_DrawGoodPolicy.F [a0]).bind fun r1 =>
 ou 0 [r1]) := by kernel_rfl
theorem q_impl_GroupsIn (a0 : D) : e_impl_GroupsIn.F [a0] = rn (
 (e_impl_GoodPolicy.F [a0]).bind fun r1 =>
 if (!r1.b) then
 ou 0 [(.pair (D.lst []) (.pair (.bool false) .unit))]
 else
 (e_impl_groupsIn.F [a0]).bind fun r2 =>
 ou 0 [(.pair r2 (.pair (.bool true) .unit))]) := by kernel_rfl
theorem q_spec_GroupsIn (a0 : D) : e_spec_GroupsIn.F [a0] = rn (
 (e_spec_GoodPolicy.F [a0]).bind fun r1 =>
 if (!r1.b) then
 ou 0 [(.pair (D.lst []) (.pair (.bool false) .unit))]
 else
 (e_spec_l14Groups.F [a0]).bind fun r2 =>
 ou 0 [(.pair r2 (.pair (.bool true) .unit))]) := by kernel_rfl
theorem q_laws_FnChosen (a0 a1 : D) : e_laws_FnChosen.F [a0, a1] = rn (
 if (decide ((IntKind.wrap .i64 ((a0.l.length : Int) + (a1.l.length : Int))) > 1048576)) then
 ou 0 [(.bool true)]
 else
 (e_spec_DrawChooseTarget.F [a0]).bind fun r2 =>
 (e_impl_ChooseTarget.F [(r2.fld 0), (r2.fld 1), (r2.fld 2)]).bind fun r3 =>
 (e_spec_ChooseTarget.F [(r2.fld 0), (r2.fld 1), (r2.fld 2)]).bind fun r4 =>
 (e_impl_GroupOf.F [(r2.fld 0), (r2.fld 1)]).bind fun r5 =>
 (e_spec_GroupOf.F [(r2.fld 0), (r2.fld 1)]).bind fun r6 =>
 (e_impl_CandidatesOf.F [(r2.fld 0), (r2.fld 1)]).bind fun r7 =>
 (e_spec_CandidatesOf.F [(r2.fld 0), (r2.fld 1)]).bind fun r8 =>
 (if (!((r3.fld 1).b == (r4.fld 1).b)) then
 ou 0 [(.bool true)]
 else
 if ((r3.fld 0).i != (r4.fld 0).i) then
 ou 0 [(.bool true)]
 else
 if (!((r5.fld 1).b == (r6.fld 1).b)) then
 ou 0 [(.bool true)]
 else
 if ((r5.fld 0).i != (r6.fld 0).i) then
 ou 0 [(.bool true)]
 else
 if (!((r7.fld 1).b == (r8.fld 1).b)) then
 ou 0 [(.bool true)]
 else
 (e_laws_sameInts.F [(r7.fld 0), (r8.fld 0)]).bind fun r9 =>
 if (!r9.b) then
 ou 0 [(.bool true)]
 else
 (e_impl_GoodPolicy.F [(r2.fld 0)]).bind fun r10 =>
 (e_spec_GoodPolicy.F [(r2.fld 0)]).bind fun r11 =>
 ou 0 [(.bool (!(r10.b == r11.b)))]).bind fun o9 =>
 sel2 o9.1 (if (gd o9.2 0).b then
 ou 0 [(.bool false)]
 else
 (if (r3.fld 1).b then
 (loopF (fun l10 =>
 if (decide ((gd l10 1).i < ((r7.fld 0).l.length : Int))) then
 (if (inb (gd l10 1).i (r7.fld 0).l.length) then
 if (gd l10 0).b then
 ou 0 [(.bool true)]
 else
 ou 0 [(.bool ((gd (r7.fld 0).l (gd l10 1).i.toNat).i == (r3.fld 0).i))]
 else none).bind fun o12 =>
 sel2 o12.1 (ou 0 [(gd o12.2 0), (.int (IntKind.wrap .i64 ((gd l10 1).i + 1)))]) fun _ => none
 else
 ou 1 [(gd l10 0)]) [(.bool false), (.int 0)]).bind fun o10 =>
 sel2 o10.1 ((e_impl_AnswerOf.F [(r2.fld 0), (r2.fld 1), (r2.fld 2)]).bind fun r11 =>
 (if (!(gd o10.2 0).b) then
 ou 0 [(.bool true)]
 else
 if (inb (r3.fld 0).i ((r2.fld 0).fld 1).l.length) then
 if (((gd ((r2.fld 0).fld 1).l (r3.fld 0).i.toNat).fld 2).i != (r5.fld 0).i) then
 ou 0 [(.bool true)]
 else
 if (!(r11.fld 1).b) then
 ou 0 [(.bool true)]
 else
 if (!(((r11.fld 0).fld 3).s == ((gd ((r2.fld 0).fld 1).l (r3.fld 0).i.toNat).fld 1).s)) then
 ou 0 [(.bool true)]
 else
 if (!(((r11.fld 0).fld 0).s == ((r2.fld 0).fld 0).s)) then
 ou 0 [(.bool true)]
 else
 (e_impl_GoodRecord.F [(r11.fld 0)]).bind fun r12 =>
 ou 0 [(.bool (!r12.b))]
 else none).bind fun o12 =>
 sel2 o12.1 (if (gd o12.2 0).b then
 ou 1 [(.bool false)]
 else
 (loopF (fun l13 =>
 if (decide ((gd l13 1).i < (((r2.fld 0).fld 1).l.length : Int))) then
 (if (inb (gd l13 1).i ((r2.fld 0).fld 1).l.length) then
 (e_impl_IsUp.F [(r2.fld 1), ((gd ((r2.fld 0).fld 1).l (gd l13 1).i.toNat).fld 0)]).bind fun r15 =>
 (if (r15.fld 0).b then
 ou 0 [(.bool true)]
 else
 ou 0 [(.bool (!(r15.fld 1).b))]).bind fun o16 =>
 sel2 o16.1 (if (gd o16.2 0).b then
 if (decide (((gd ((r2.fld 0).fld 1).l (gd l13 1).i.toNat).fld 2).i < (r5.fld 0).i)) then
 ou 1 [(.bool false)]
 else
 ou 0 [(.bool true)]
 else
 ou 0 [(gd l13 0)]) fun _ => none
 else none).bind fun o15 =>
 sel2 o15.1 (ou 0 [(gd o15.2 0), (.int (IntKind.wrap .i64 ((gd l13 1).i + 1)))]) fun n24 =>
 sel2 n24 (ou 1 [(gd o15.2 0)]) fun _ => none
 else
 ou 2 [(gd l13 0)]) [(.bool false), (.int 0)]).bind fun o13 =>
 sel2 o13.1 (ou 1 [(gd o13.2 0)]) fun n18 =>
 sel2 n18 (if (inb (r3.fld 0).i ((r2.fld 0).fld 1).l.length) then
 (e_impl_IsUp.F [(r2.fld 1), ((gd ((r2.fld 0).fld 1).l (r3.fld 0).i.toNat).fld 0)]).bind fun r14 =>
 (if (r14.fld 0).b then
 ou 0 [(.bool (!((gd o13.2 0).b == true)))]
 else
 ou 0 [(.bool (!((gd o13.2 0).b == (!(r14.fld 1).b))))]).bind fun o15 =>
 sel2 o15.1 (if (gd o15.2 0).b then
 ou 1 [(.bool false)]
 else
 ou 0 []) fun _ => none
 else none) fun _ => none) fun _ => none) fun _ => none
 else
 ou 0 []).bind fun o10 =>
 sel2 o10.1 ((e_spec_DrawGroupsIn.F [a1]).bind fun r10 =>
 (e_impl_GroupsIn.F [r10]).bind fun r11 =>
 (e_spec_GroupsIn.F [r10]).bind fun r12 =>
 (if ((r11.fld 1).b == (r12.fld 1).b) then
 (e_laws_sameInts.F [(r11.fld 0), (r12.fld 0)]).bind fun r13 =>
 ou 0 [r13]
 else
 ou 0 [(.bool false)]).bind fun o13 =>
 sel2 o13.1 (ou 0 [(gd o13.2 0)]) fun _ => none) fun n8 =>
 sel2 n8 (ou 0 [(gd o10.2 0)]) fun _ => none) fun _ => none) := by kernel_rfl
end Go.Proofs.YtobighfemobgjaaGreatDoor
