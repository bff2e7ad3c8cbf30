/- What each function gives, told as plain code. -/
import Derived.Test.YtbanjbafckgghaaDoorC
set_option linter.unusedSectionVars false
set_option linter.unusedVariables false
set_option linter.unusedSimpArgs false
namespace Go.Proofs.YtbanjbafckgghaaDoor
open Go Go.Own
set_option maxRecDepth 100000
/-- (*loop.example/g00300/spec.l1Cur).next -/
theorem q_spec_l1Cur_next (a0 : D) : e_spec_l1Cur_next.F [a0] = rn (
  (if (decide ((a0.fld 1).i < ((a0.fld 0).l.length : Int))) then
      if (inb (a0.fld 1).i (a0.fld 0).l.length) then
      ou 0 [(.int (IntKind.wrap .i64 (gd (a0.fld 0).l (a0.fld 1).i.toNat).i))]
      else none
    else
      ou 0 [(.int 0)]).bind fun o1 =>
  sel2 o1.1 (if (decide ((IntKind.wrap .i64 ((a0.fld 1).i + 1)) ≤ ((a0.fld 0).l.length : Int))) then
      ou 0 [(.pair (gd o1.2 0) (.pair ((a0.setFld 1 (.int (IntKind.wrap .i64 ((a0.fld 1).i + 1)))).setFld 2 (.int (IntKind.wrap .u64 ((IntKind.wrap .u64 ((IntKind.wrap .u64 ((a0.fld 2).i * 6364136223846793005)) + (IntKind.wrap .u64 (gd o1.2 0).i))) + 1442695040888963407)))) .unit))]
    else
      if (decide (0 ≤ 40)) then
      ou 0 [(.pair (.int (IntKind.wrap .i64 (D.ofBin (binInt .and .u64 ((IntKind.wrap .u64 ((IntKind.wrap .u64 ((IntKind.wrap .u64 ((a0.fld 2).i * 6364136223846793005)) + (IntKind.wrap .u64 (gd o1.2 0).i))) + 1442695040888963407)).fdiv (2 ^ min 40 (IntKind.bits .u64))) 255)).i)) (.pair ((a0.setFld 1 (.int (IntKind.wrap .i64 ((a0.fld 1).i + 1)))).setFld 2 (.int (IntKind.wrap .u64 ((IntKind.wrap .u64 ((IntKind.wrap .u64 ((a0.fld 2).i * 6364136223846793005)) + (IntKind.wrap .u64 (gd o1.2 0).i))) + 1442695040888963407)))) .unit))]
      else none) fun _ => none) := by kernel_rfl
/-- (*loop.example/g00300/spec.l1Cur).pick -/
theorem q_spec_l1Cur_pick (a0 a1 : D) : e_spec_l1Cur_pick.F [a0, a1] = rn (
  if (decide (a1.i ≤ 1)) then
    ou 0 [(.pair (.int 0) (.pair a0 .unit))]
  else
    (e_spec_l1Cur_next.F [a0]).bind fun r2 =>
    (if (decide (a1.i > 200)) then
        (e_spec_l1Cur_next.F [(r2.fld 1)]).bind fun r3 =>
        ou 0 [(r3.fld 1), (.int (IntKind.wrap .i64 ((IntKind.wrap .i64 ((r2.fld 0).i * 256)) + (r3.fld 0).i)))]
      else
        ou 0 [(r2.fld 1), (r2.fld 0)]).bind fun o3 =>
    sel2 o3.1 (if (a1.i != 0) then
      ou 0 [(.pair (.int ((gd o3.2 1).i.tmod a1.i)) (.pair (gd o3.2 0) .unit))]
      else none) fun _ => none) := by kernel_rfl
/-- (*loop.example/g00300/spec.l1Cur).one -/
theorem q_spec_l1Cur_one (a0 a1 : D) : e_spec_l1Cur_one.F [a0, a1] = rn (
  (e_spec_l1Cur_pick.F [a0, a1]).bind fun r2 =>
  ou 0 [(.pair (.bool ((r2.fld 0).i == 0)) (.pair (r2.fld 1) .unit))]) := by kernel_rfl
/-- (*loop.example/g00300/spec.l1Cur).of -/
theorem q_spec_l1Cur_of (a0 a1 : D) : e_spec_l1Cur_of.F [a0, a1] = rn (
  (e_spec_l1Cur_pick.F [a0, (.int (a1.l.length : Int))]).bind fun r2 =>
  if (inb (r2.fld 0).i a1.l.length) then
  ou 0 [(.pair (gd a1.l (r2.fld 0).i.toNat) (.pair (r2.fld 1) .unit))]
  else none) := by kernel_rfl
/-- (*loop.example/g00300/spec.l1Cur).hosts -/
theorem q_spec_l1Cur_hosts (a0 : D) : e_spec_l1Cur_hosts.F [a0] = rn (
  (e_spec_l1Cur_pick.F [a0, (.int 4)]).bind fun r1 =>
  if (slOk 0 (IntKind.wrap .i64 (1 + (r1.fld 0).i)) (((D.str [97, 46, 101, 120, 46, 99, 111, 109]) :: ((D.str [98, 46, 101, 120, 46, 99, 111, 109]) :: ((D.str [99, 46, 101, 120, 46, 99, 111, 109]) :: ((D.str [100, 46, 101, 120, 46, 99, 111, 109]) :: ([] : List D))))).length : Int)) then
  if (winOk 0 (((IntKind.wrap .i64 (1 + (r1.fld 0).i)).toNat - 0 : Nat) : Int).toNat ((D.str [97, 46, 101, 120, 46, 99, 111, 109]) :: ((D.str [98, 46, 101, 120, 46, 99, 111, 109]) :: ((D.str [99, 46, 101, 120, 46, 99, 111, 109]) :: ((D.str [100, 46, 101, 120, 46, 99, 111, 109]) :: ([] : List D)))))) then
  ((e_spec_l1Cur_one.F [(r1.fld 1), (.int 30)]).bind fun r2 =>
    if (r2.fld 0).b then
      if (appOk 16 ([] : List D) ((((D.str [97, 46, 101, 120, 46, 99, 111, 109]) :: ((D.str [98, 46, 101, 120, 46, 99, 111, 109]) :: ((D.str [99, 46, 101, 120, 46, 99, 111, 109]) :: ((D.str [100, 46, 101, 120, 46, 99, 111, 109]) :: ([] : List D))))).drop 0).take (((IntKind.wrap .i64 (1 + (r1.fld 0).i)).toNat - 0 : Nat) : Int).toNat)) then
      (e_spec_l1Cur_of.F [(r2.fld 1), (D.lst ((D.str []) :: ((D.str [97, 46, 101, 120, 46, 99, 111, 109]) :: ((D.str [65]) :: ([] : List D)))))]).bind fun r3 =>
      if (appOk 16 (([] : List D) ++ ((((D.str [97, 46, 101, 120, 46, 99, 111, 109]) :: ((D.str [98, 46, 101, 120, 46, 99, 111, 109]) :: ((D.str [99, 46, 101, 120, 46, 99, 111, 109]) :: ((D.str [100, 46, 101, 120, 46, 99, 111, 109]) :: ([] : List D))))).drop 0).take (((IntKind.wrap .i64 (1 + (r1.fld 0).i)).toNat - 0 : Nat) : Int).toNat)) ((r3.fld 0) :: ([] : List D))) then
      ou 0 [(r3.fld 1), (D.lst ((([] : List D) ++ ((((D.str [97, 46, 101, 120, 46, 99, 111, 109]) :: ((D.str [98, 46, 101, 120, 46, 99, 111, 109]) :: ((D.str [99, 46, 101, 120, 46, 99, 111, 109]) :: ((D.str [100, 46, 101, 120, 46, 99, 111, 109]) :: ([] : List D))))).drop 0).take (((IntKind.wrap .i64 (1 + (r1.fld 0).i)).toNat - 0 : Nat) : Int).toNat)) ++ ((r3.fld 0) :: ([] : List D))))]
      else none
      else none
    else
      ou 0 [(r2.fld 1), (D.lst ((((D.str [97, 46, 101, 120, 46, 99, 111, 109]) :: ((D.str [98, 46, 101, 120, 46, 99, 111, 109]) :: ((D.str [99, 46, 101, 120, 46, 99, 111, 109]) :: ((D.str [100, 46, 101, 120, 46, 99, 111, 109]) :: ([] : List D))))).drop 0).take (((IntKind.wrap .i64 (1 + (r1.fld 0).i)).toNat - 0 : Nat) : Int).toNat))]).bind fun o2 =>
  sel2 o2.1 (ou 0 [(.pair (gd o2.2 1) (.pair (gd o2.2 0) .unit))]) fun _ => none
  else none
  else none) := by kernel_rfl
/-- (*loop.example/g00300/spec.l1Cur).probes -/
theorem q_spec_l1Cur_probes (a0 a1 : D) : e_spec_l1Cur_probes.F [a0, a1] = rn (
  (e_spec_l1Cur_pick.F [a0, (.int 30)]).bind fun r2 =>
  ((e_spec_l1Cur_one.F [(r2.fld 1), (.int 20)]).bind fun r3 =>
    if (r3.fld 0).b then
      (e_spec_l1Cur_pick.F [(r3.fld 1), (.int 2)]).bind fun r4 =>
      ou 0 [(r4.fld 1), (.int (IntKind.wrap .i64 (200 + (r4.fld 0).i)))]
    else
      ou 0 [(r3.fld 1), (r2.fld 0)]).bind fun o3 =>
  sel2 o3.1 ((loopF (fun l5 =>
        if (decide ((gd l5 2).i > 0)) then
          (e_spec_l1Cur_pick.F [(gd l5 0), a1]).bind fun r8 =>
          (e_spec_l1Cur_one.F [(r8.fld 1), (.int 2)]).bind fun r9 =>
          if (appOk 16 (gd l5 1).l ((.pair (r8.fld 0) (.pair (r9.fld 0) .unit)) :: ([] : List D))) then
          ou 0 [(r9.fld 1), (D.lst ((gd l5 1).l ++ ((.pair (r8.fld 0) (.pair (r9.fld 0) .unit)) :: ([] : List D)))), (.int (IntKind.wrap .i64 ((gd l5 2).i - 1)))]
          else none
        else
          ou 1 [(gd l5 0), (gd l5 1)]) [(gd o3.2 0), (D.lst []), (gd o3.2 1)]).bind fun o5 =>
    sel2 o5.1 (((if (decide (((gd o5.2 1).l.length : Int) > 0)) then
            (e_spec_l1Cur_one.F [(gd o5.2 0), (.int 40)]).bind fun r7 =>
            ou 0 [(r7.fld 1), (r7.fld 0)]
          else
            ou 0 [(gd o5.2 0), (.bool false)]).bind fun o7 =>
        sel2 o7.1 (if (gd o7.2 1).b then
            if (inb 0 (gd o5.2 1).l.length) then
            ou 0 [(gd o7.2 0), (D.lst ((gd o5.2 1).l.set 0 ((gd (gd o5.2 1).l 0).setFld 0 a1)))]
            else none
          else
            ou 0 [(gd o7.2 0), (gd o5.2 1)]) fun _ => none).bind fun o7 =>
      sel2 o7.1 (ou 0 [(.pair (gd o7.2 1) (.pair (gd o7.2 0) .unit))]) fun _ => none) fun _ => none) fun _ => none) := by kernel_rfl
/-- loop.example/g00300/spec.DrawPlayProbes -/
theorem q_spec_DrawPlayProbes (a0 : D) : e_spec_DrawPlayProbes.F [a0] = rn (
  (e_spec_l1Cur_hosts.F [(.pair a0 (.pair (.int 0) (.pair (.int 0) .unit)))]).bind fun r1 =>
  (e_spec_l1Cur_pick.F [(r1.fld 1), (.int 3)]).bind fun r2 =>
  (e_spec_l1Cur_pick.F [(r2.fld 1), (.int 3)]).bind fun r3 =>
  (e_spec_l1Cur_probes.F [(r3.fld 1), (.int ((r1.fld 0).l.length : Int))]).bind fun r4 =>
  ou 0 [(.pair (.int (IntKind.wrap .i64 (1 + (r2.fld 0).i))) (.pair (.int (IntKind.wrap .i64 (1 + (r3.fld 0).i))) (.pair (r1.fld 0) (.pair (r4.fld 0) .unit))))]) := by kernel_rfl
/-- loop.example/g00300/impl.within -/
theorem q_impl_within (a0 a1 a2 : D) : e_impl_within.F [a0, a1, a2] = rn (
  (if (decide (a0.i ≥ a1.i)) then
      ou 0 [(.bool (decide (a0.i ≤ a2.i)))]
    else
      ou 0 [(.bool false)]).bind fun o3 =>
  sel2 o3.1 (ou 0 [(gd o3.2 0)]) fun _ => none) := by kernel_rfl
/-- loop.example/g00300/impl.labelsOf -/
theorem q_impl_labelsOf (a0 : D) : e_impl_labelsOf.F [a0] = rn (
  if (a0.s == ([] : List UInt8)) then
    ou 0 [(D.lst [])]
  else
    (e_strings_Split.F [a0, (D.str [46])]).bind fun r1 =>
    ou 0 [r1]) := by kernel_rfl
/-- loop.example/g00300/impl.isLabel -/
theorem q_impl_isLabel (a0 : D) : e_impl_isLabel.F [a0] = rn (
  if (a0.s == ([42] : List UInt8)) then
    ou 0 [(.bool true)]
  else
    ((e_impl_within.F [(.int (a0.s.length : Int)), (.int 1), (.int 20)]).bind fun r1 =>
      if r1.b then
        (e_strings_Trim.F [a0, (D.str [97, 98, 99, 100, 101, 102, 103, 104, 105, 106, 107, 108, 109, 110, 111, 112, 113, 114, 115, 116, 117, 118, 119, 120, 121, 122, 48, 49, 50, 51, 52, 53, 54, 55, 56, 57, 45, 95])]).bind fun r2 =>
        ou 0 [(.bool (r2.s == ([] : List UInt8)))]
      else
        ou 0 [(.bool false)]).bind fun o1 =>
    sel2 o1.1 (ou 0 [(gd o1.2 0)]) fun _ => none) := by kernel_rfl
/-- loop.example/g00300/impl.GoodName$1 -/
theorem q_impl_GoodName_1 (a0 : D) : e_impl_GoodName_1.F [a0] = rn (
  (e_impl_isLabel.F [a0]).bind fun r1 =>
  ou 0 [(.bool (!r1.b))]) := by kernel_rfl
/-- slices.IndexFunc[[]string,string] -/
theorem q_slices_IndexFunc_string_string__impl_GoodName_1 (a0 a1 : D) : e_slices_IndexFunc_string_string__impl_GoodName_1.F [a0, a1] = rn (
  (loopF (fun l2 =>
      if (decide ((gd l2 0).i < (a0.l.length : Int))) then
        if (inb (gd l2 0).i a0.l.length) then
        (e_impl_GoodName_1.F [(gd a0.l (gd l2 0).i.toNat)]).bind fun r3 =>
        if r3.b then
          ou 1 [(gd l2 0)]
        else
          ou 0 [(.int (IntKind.wrap .i64 ((gd l2 0).i + 1)))]
        else none
      else
        ou 2 []) [(.int 0)]).bind fun o2 =>
  sel2 o2.1 (ou 0 [(gd o2.2 0)]) fun n2 =>
  sel2 n2 (ou 0 [(.int (-1))]) fun _ => none) := by kernel_rfl
/-- slices.ContainsFunc[[]string,string] -/
theorem q_slices_ContainsFunc_string_string__impl_GoodName_1 (a0 a1 : D) : e_slices_ContainsFunc_string_string__impl_GoodName_1.F [a0, a1] = rn (
  (e_slices_IndexFunc_string_string__impl_GoodName_1.F [a0, a1]).bind fun r2 =>
  ou 0 [(.bool (decide (r2.i ≥ 0)))]) := by kernel_rfl
/-- loop.example/g00300/impl.GoodName -/
theorem q_impl_GoodName (a0 : D) : e_impl_GoodName.F [a0] = rn (
  if (decide ((a0.s.length : Int) > 60)) then
    ou 0 [(.bool false)]
  else
    (e_impl_labelsOf.F [a0]).bind fun r1 =>
    (if (decide ((r1.l.length : Int) ≤ 8)) then
        (e_slices_ContainsFunc_string_string__impl_GoodName_1.F [r1, .unit]).bind fun r2 =>
        ou 0 [(.bool (!r2.b))]
      else
        ou 0 [(.bool false)]).bind fun o2 =>
    sel2 o2.1 (ou 0 [(gd o2.2 0)]) fun _ => none) := by kernel_rfl
/-- (loop.example/g00300/impl.Health).mostRow -/
theorem q_impl_Health_mostRow (a0 a1 : D) : e_impl_Health_mostRow.F [a0, a1] = rn (
  if (a1.fld 1).b then
    ou 0 [(a0.fld 1)]
  else
    ou 0 [(a0.fld 0)]) := by kernel_rfl
/-- loop.example/g00300/impl.GoodHealth$1 -/
theorem q_impl_GoodHealth_1 (a0 a1 : D) : e_impl_GoodHealth_1.F [a0, a1] = rn (
  ou 0 [(.bool ((a0.fld 0).s == (a1.fld 0).s))]) := by kernel_rfl
/-- slices.IndexFunc[[]loop.example/g00300/impl.Host,loop.example/g00300/impl.Host] -/
theorem q_slices_IndexFunc_impl_Host_impl_Host__impl_GoodHealth_1 (a0 a1 : D) : e_slices_IndexFunc_impl_Host_impl_Host__impl_GoodHealth_1.F [a0, a1] = rn (
  (loopF (fun l2 =>
      if (decide ((gd l2 0).i < (a0.l.length : Int))) then
        if (inb (gd l2 0).i a0.l.length) then
        (e_impl_GoodHealth_1.F [(gd a0.l (gd l2 0).i.toNat), (a1.fld 0)]).bind fun r3 =>
        if r3.b then
          ou 1 [(gd l2 0)]
        else
          ou 0 [(.int (IntKind.wrap .i64 ((gd l2 0).i + 1)))]
        else none
      else
        ou 2 []) [(.int 0)]).bind fun o2 =>
  sel2 o2.1 (ou 0 [(gd o2.2 0)]) fun n2 =>
  sel2 n2 (ou 0 [(.int (-1))]) fun _ => none) := by kernel_rfl
/-- slices.ContainsFunc[[]loop.example/g00300/impl.Host,loop.example/g00300/impl.Host] -/
theorem q_slices_ContainsFunc_impl_Host_impl_Host__impl_GoodHealth_1 (a0 a1 : D) : e_slices_ContainsFunc_impl_Host_impl_Host__impl_GoodHealth_1.F [a0, a1] = rn (
  (e_slices_IndexFunc_impl_Host_impl_Host__impl_GoodHealth_1.F [a0, a1]).bind fun r2 =>
  ou 0 [(.bool (decide (r2.i ≥ 0)))]) := by kernel_rfl
/-- loop.example/g00300/impl.GoodHealth -/
theorem q_impl_GoodHealth (a0 : D) : e_impl_GoodHealth.F [a0] = rn (
  ((e_impl_within.F [(a0.fld 0), (.int 1), (.int 10)]).bind fun r1 =>
    if (!r1.b) then
      ou 0 [(.bool true)]
    else
      (e_impl_within.F [(a0.fld 1), (.int 1), (.int 10)]).bind fun r2 =>
      if (!r2.b) then
        ou 0 [(.bool true)]
      else
        (e_impl_within.F [(.int ((a0.fld 2).l.length : Int)), (.int 1), (.int 12)]).bind fun r3 =>
        ou 0 [(.bool (!r3.b))]).bind fun o1 =>
  sel2 o1.1 (if (gd o1.2 0).b then
      ou 0 [(.bool false)]
    else
      (loopF (fun l2 =>
          if (decide ((gd l2 0).i < ((a0.fld 2).l.length : Int))) then
            if (inb (gd l2 0).i (a0.fld 2).l.length) then
            (if (((gd (a0.fld 2).l (gd l2 0).i.toNat).fld 0).s == ([] : List UInt8)) then
                ou 0 [(.bool true)]
              else
                (e_impl_GoodName.F [((gd (a0.fld 2).l (gd l2 0).i.toNat).fld 0)]).bind fun r3 =>
                if (!r3.b) then
                  ou 0 [(.bool true)]
                else
                  (e_impl_Health_mostRow.F [a0, (gd (a0.fld 2).l (gd l2 0).i.toNat)]).bind fun r4 =>
                  (e_impl_within.F [((gd (a0.fld 2).l (gd l2 0).i.toNat).fld 2), (.int 0), (.int (IntKind.wrap .i64 (r4.i - 1)))]).bind fun r5 =>
                  if (!r5.b) then
                    ou 0 [(.bool true)]
                  else
                    if (slOk 0 (gd l2 0).i ((a0.fld 2).l.length : Int)) then
                    (e_slices_ContainsFunc_impl_Host_impl_Host__impl_GoodHealth_1.F [(D.lst (((a0.fld 2).l.take (gd l2 0).i.toNat).drop 0)), (.pair (gd (a0.fld 2).l (gd l2 0).i.toNat) .unit)]).bind fun r6 =>
                    ou 0 [r6]
                    else none).bind fun o3 =>
            sel2 o3.1 (if (gd o3.2 0).b then
                ou 1 [(.bool false)]
              else
                ou 0 [(.int (IntKind.wrap .i64 ((gd l2 0).i + 1)))]) fun _ => none
            else none
          else
            ou 2 []) [(.int 0)]).bind fun o2 =>
      sel2 o2.1 (ou 0 [(gd o2.2 0)]) fun n6 =>
      sel2 n6 (ou 0 [(.bool true)]) fun _ => none) fun _ => none) := by kernel_rfl
/-- loop.example/g00300/impl.NewHealth -/
theorem q_impl_NewHealth (a0 a1 a2 : D) : e_impl_NewHealth.F [a0, a1, a2] = rn (
  if (decide ((a2.l.length : Int) > 12)) then
    ou 0 [(.pair (.pair (.int 0) (.pair (.int 0) (.pair (D.lst []) .unit))) (.pair (.bool false) .unit))]
  else
    (loopF (fun l3 =>
        if (decide ((gd l3 1).i < (a2.l.length : Int))) then
          if (inb (gd l3 1).i a2.l.length) then
          if (appOk 32 ((gd l3 0).fld 2).l ((.pair (gd a2.l (gd l3 1).i.toNat) (.pair (.bool true) (.pair (.int 0) .unit))) :: ([] : List D))) then
          ou 0 [((gd l3 0).setFld 2 (D.lst (((gd l3 0).fld 2).l ++ ((.pair (gd a2.l (gd l3 1).i.toNat) (.pair (.bool true) (.pair (.int 0) .unit))) :: ([] : List D))))), (.int (IntKind.wrap .i64 ((gd l3 1).i + 1)))]
          else none
          else none
        else
          ou 1 [(gd l3 0)]) [(.pair a0 (.pair a1 (.pair (D.lst []) .unit))), (.int 0)]).bind fun o3 =>
    sel2 o3.1 ((e_impl_GoodHealth.F [(gd o3.2 0)]).bind fun r4 =>
      if (!r4.b) then
        ou 0 [(.pair (.pair (.int 0) (.pair (.int 0) (.pair (D.lst []) .unit))) (.pair (.bool false) .unit))]
      else
        ou 0 [(.pair (gd o3.2 0) (.pair (.bool true) .unit))]) fun _ => none) := by kernel_rfl
/-- slices.Clone[[]loop.example/g00300/impl.Host,loop.example/g00300/impl.Host] -/
theorem q_slices_Clone_impl_Host_impl_Host (a0 : D) : e_slices_Clone_impl_Host_impl_Host.F [a0] = rn (
  two a0.l.isEmpty
    (ou 0 [(D.lst [])])
    (if (appOk 32 ([] : List D) a0.l) then
    ou 0 [(D.lst (([] : List D) ++ a0.l))]
    else none)) := by kernel_rfl
/-- loop.example/g00300/impl.probed -/
theorem q_impl_probed (a0 a1 : D) : e_impl_probed.F [a0, a1] = rn (
  (e_slices_Clone_impl_Host_impl_Host.F [(a0.fld 2)]).bind fun r2 =>
  if (inb (a1.fld 0).i r2.l.length) then
  if (((gd r2.l (a1.fld 0).i.toNat).fld 1).b == (a1.fld 1).b) then
    ou 0 [(.pair (.pair (a0.fld 0) (.pair (a0.fld 1) (.pair (D.lst (r2.l.set (a1.fld 0).i.toNat ((gd r2.l (a1.fld 0).i.toNat).setFld 2 (.int 0)))) .unit))) (.pair (.bool false) .unit))]
  else
    (e_impl_Health_mostRow.F [a0, (gd (D.lst (r2.l.set (a1.fld 0).i.toNat ((gd r2.l (a1.fld 0).i.toNat).setFld 2 (.int (IntKind.wrap .i64 (((gd r2.l (a1.fld 0).i.toNat).fld 2).i + 1)))))).l (a1.fld 0).i.toNat)]).bind fun r3 =>
    if (decide (((gd (D.lst (r2.l.set (a1.fld 0).i.toNat ((gd r2.l (a1.fld 0).i.toNat).setFld 2 (.int (IntKind.wrap .i64 (((gd r2.l (a1.fld 0).i.toNat).fld 2).i + 1)))))).l (a1.fld 0).i.toNat).fld 2).i < r3.i)) then
      ou 0 [(.pair (.pair (a0.fld 0) (.pair (a0.fld 1) (.pair (D.lst (r2.l.set (a1.fld 0).i.toNat ((gd r2.l (a1.fld 0).i.toNat).setFld 2 (.int (IntKind.wrap .i64 (((gd r2.l (a1.fld 0).i.toNat).fld 2).i + 1)))))) .unit))) (.pair (.bool false) .unit))]
    else
      ou 0 [(.pair (.pair (a0.fld 0) (.pair (a0.fld 1) (.pair (D.lst (((r2.l.set (a1.fld 0).i.toNat ((gd r2.l (a1.fld 0).i.toNat).setFld 2 (.int (IntKind.wrap .i64 (((gd r2.l (a1.fld 0).i.toNat).fld 2).i + 1))))).set (a1.fld 0).i.toNat ((gd (D.lst (r2.l.set (a1.fld 0).i.toNat ((gd r2.l (a1.fld 0).i.toNat).setFld 2 (.int (IntKind.wrap .i64 (((gd r2.l (a1.fld 0).i.toNat).fld 2).i + 1)))))).l (a1.fld 0).i.toNat).setFld 1 (.bool (!((gd (D.lst (r2.l.set (a1.fld 0).i.toNat ((gd r2.l (a1.fld 0).i.toNat).setFld 2 (.int (IntKind.wrap .i64 (((gd r2.l (a1.fld 0).i.toNat).fld 2).i + 1)))))).l (a1.fld 0).i.toNat).fld 1).b)))).set (a1.fld 0).i.toNat ((gd (D.lst ((r2.l.set (a1.fld 0).i.toNat ((gd r2.l (a1.fld 0).i.toNat).setFld 2 (.int (IntKind.wrap .i64 (((gd r2.l (a1.fld 0).i.toNat).fld 2).i + 1))))).set (a1.fld 0).i.toNat ((gd (D.lst (r2.l.set (a1.fld 0).i.toNat ((gd r2.l (a1.fld 0).i.toNat).setFld 2 (.int (IntKind.wrap .i64 (((gd r2.l (a1.fld 0).i.toNat).fld 2).i + 1)))))).l (a1.fld 0).i.toNat).setFld 1 (.bool (!((gd (D.lst (r2.l.set (a1.fld 0).i.toNat ((gd r2.l (a1.fld 0).i.toNat).setFld 2 (.int (IntKind.wrap .i64 (((gd r2.l (a1.fld 0).i.toNat).fld 2).i + 1)))))).l (a1.fld 0).i.toNat).fld 1).b))))).l (a1.fld 0).i.toNat).setFld 2 (.int 0)))) .unit))) (.pair (.bool true) .unit))]
  else none) := by kernel_rfl
/-- loop.example/g00300/impl.PlayProbes -/
theorem q_impl_PlayProbes (a0 a1 a2 a3 : D) : e_impl_PlayProbes.F [a0, a1, a2, a3] = rn (
  (e_impl_NewHealth.F [a0, a1, a2]).bind fun r4 =>
  (if (!(r4.fld 1).b) then
      ou 0 [(.bool true)]
    else
      ou 0 [(.bool (decide ((a3.l.length : Int) > 200)))]).bind fun o5 =>
  sel2 o5.1 (if (gd o5.2 0).b then
      ou 0 [(.pair (.pair (.int 0) (.pair (.int 0) (.pair (D.lst []) .unit))) (.pair (.int 0) (.pair (.bool false) .unit)))]
    else
      (loopF (fun l6 =>
          if (decide ((gd l6 2).i < (a3.l.length : Int))) then
            if (inb (gd l6 2).i a3.l.length) then
            (e_impl_within.F [((gd a3.l (gd l6 2).i.toNat).fld 0), (.int 0), (.int (IntKind.wrap .i64 ((((gd l6 0).fld 2).l.length : Int) - 1)))]).bind fun r9 =>
            if (!r9.b) then
              ou 1 [(.pair (.int 0) (.pair (.int 0) (.pair (D.lst []) .unit))), (.int 0), (.bool false)]
            else
              (e_impl_probed.F [(gd l6 0), (gd a3.l (gd l6 2).i.toNat)]).bind fun r10 =>
              (if (r10.fld 1).b then
                  ou 0 [(.int (IntKind.wrap .i64 ((gd l6 1).i + 1)))]
                else
                  ou 0 [(gd l6 1)]).bind fun o11 =>
              sel2 o11.1 (ou 0 [(r10.fld 0), (gd o11.2 0), (.int (IntKind.wrap .i64 ((gd l6 2).i + 1)))]) fun _ => none
            else none
          else
            ou 2 [(gd l6 0), (gd l6 1)]) [(r4.fld 0), (.int 0), (.int 0)]).bind fun o6 =>
      sel2 o6.1 (ou 0 [(.pair (gd o6.2 0) (.pair (gd o6.2 1) (.pair (gd o6.2 2) .unit)))]) fun n6 =>
      sel2 n6 (ou 0 [(.pair (gd o6.2 0) (.pair (gd o6.2 1) (.pair (.bool true) .unit)))]) fun _ => none) fun _ => none) := by kernel_rfl
/-- loop.example/g00300/spec.l1In -/
theorem q_spec_l1In (a0 a1 a2 : D) : e_spec_l1In.F [a0, a1, a2] = rn (
  (if (decide (a0.i ≥ a1.i)) then
      ou 0 [(.bool (decide (a0.i ≤ a2.i)))]
    else
      ou 0 [(.bool false)]).bind fun o3 =>
  sel2 o3.1 (ou 0 [(gd o3.2 0)]) fun _ => none) := by kernel_rfl
/-- loop.example/g00300/spec.l1Split -/
theorem q_spec_l1Split (a0 a1 : D) : e_spec_l1Split.F [a0, a1] = rn (
  (loopF (fun l2 =>
      if (decide ((gd l2 2).i < (a0.s.length : Int))) then
        (if (inb (gd l2 2).i a0.s.length) then
          if ((byteAt a0.s (gd l2 2).i.toNat : Int) == a1.i) then
            if (slOk (gd l2 1).i (gd l2 2).i (a0.s.length : Int)) then
            if (appOk 16 (gd l2 0).l ((.str ((a0.s.take (gd l2 2).i.toNat).drop (gd l2 1).i.toNat)) :: ([] : List D))) then
            ou 0 [(D.lst ((gd l2 0).l ++ ((.str ((a0.s.take (gd l2 2).i.toNat).drop (gd l2 1).i.toNat)) :: ([] : List D)))), (.int (IntKind.wrap .i64 ((gd l2 2).i + 1)))]
            else none
            else none
          else
            ou 0 [(gd l2 0), (gd l2 1)]
          else none).bind fun o5 =>
        sel2 o5.1 (ou 0 [(gd o5.2 0), (gd o5.2 1), (.int (IntKind.wrap .i64 ((gd l2 2).i + 1)))]) fun _ => none
      else
        ou 1 [(gd l2 0), (gd l2 1)]) [(D.lst []), (.int 0), (.int 0)]).bind fun o2 =>
  sel2 o2.1 (if (slOk (gd o2.2 1).i (a0.s.length : Int) (a0.s.length : Int)) then
    if (appOk 16 (gd o2.2 0).l ((.str ((a0.s.take (a0.s.length : Int).toNat).drop (gd o2.2 1).i.toNat)) :: ([] : List D))) then
    ou 0 [(D.lst ((gd o2.2 0).l ++ ((.str ((a0.s.take (a0.s.length : Int).toNat).drop (gd o2.2 1).i.toNat)) :: ([] : List D))))]
    else none
    else none) fun _ => none) := by kernel_rfl
/-- loop.example/g00300/spec.l1Label -/
theorem q_spec_l1Label (a0 : D) : e_spec_l1Label.F [a0] = rn (
  if (a0.s == ([42] : List UInt8)) then
    ou 0 [(.bool true)]
  else
    (loopF (fun l1 =>
        if (decide ((gd l1 0).i < (a0.s.length : Int))) then
          if (inb (gd l1 0).i a0.s.length) then
          (if (decide ((byteAt a0.s (gd l1 0).i.toNat : Int) ≥ 97)) then
              if (decide ((byteAt a0.s (gd l1 0).i.toNat : Int) ≤ 122)) then
                ou 0 [(.bool (!true))]
              else
                if (decide ((byteAt a0.s (gd l1 0).i.toNat : Int) ≥ 48)) then
                  if (decide ((byteAt a0.s (gd l1 0).i.toNat : Int) ≤ 57)) then
                    ou 0 [(.bool (!true))]
                  else
                    if ((byteAt a0.s (gd l1 0).i.toNat : Int) == 45) then
                      ou 0 [(.bool (!true))]
                    else
                      ou 0 [(.bool (!((byteAt a0.s (gd l1 0).i.toNat : Int) == 95)))]
                else
                  if ((byteAt a0.s (gd l1 0).i.toNat : Int) == 45) then
                    ou 0 [(.bool (!true))]
                  else
                    ou 0 [(.bool (!((byteAt a0.s (gd l1 0).i.toNat : Int) == 95)))]
            else
              if (decide ((byteAt a0.s (gd l1 0).i.toNat : Int) ≥ 48)) then
                if (decide ((byteAt a0.s (gd l1 0).i.toNat : Int) ≤ 57)) then
                  ou 0 [(.bool (!true))]
                else
                  if ((byteAt a0.s (gd l1 0).i.toNat : Int) == 45) then
                    ou 0 [(.bool (!true))]
                  else
                    ou 0 [(.bool (!((byteAt a0.s (gd l1 0).i.toNat : Int) == 95)))]
              else
                if ((byteAt a0.s (gd l1 0).i.toNat : Int) == 45) then
                  ou 0 [(.bool (!true))]
                else
                  ou 0 [(.bool (!((byteAt a0.s (gd l1 0).i.toNat : Int) == 95)))]).bind fun o2 =>
          sel2 o2.1 (if (gd o2.2 0).b then
              ou 1 []
            else
              ou 0 [(.int (IntKind.wrap .i64 ((gd l1 0).i + 1)))]) fun _ => none
          else none
        else
          ou 2 []) [(.int 0)]).bind fun o1 =>
    sel2 o1.1 (ou 0 [(.bool false)]) fun n4 =>
    sel2 n4 ((e_spec_l1In.F [(.int (a0.s.length : Int)), (.int 1), (.int 20)]).bind fun r1 =>
      ou 0 [r1]) fun _ => none) := by kernel_rfl
/-- loop.example/g00300/spec.l1Labels -/
theorem q_spec_l1Labels (a0 : D) : e_spec_l1Labels.F [a0] = rn (
  if (a0.s == ([] : List UInt8)) then
    ou 0 [(.pair (D.lst []) (.pair (.bool true) .unit))]
  else
    (e_spec_l1Split.F [a0, (.int 46)]).bind fun r1 =>
    (loopF (fun l2 =>
        if (decide ((gd l2 0).i < (r1.l.length : Int))) then
          if (inb (gd l2 0).i r1.l.length) then
          (e_spec_l1Label.F [(gd r1.l (gd l2 0).i.toNat)]).bind fun r3 =>
          if (!r3.b) then
            ou 1 []
          else
            ou 0 [(.int (IntKind.wrap .i64 ((gd l2 0).i + 1)))]
          else none
        else
          ou 2 []) [(.int 0)]).bind fun o2 =>
    sel2 o2.1 (ou 0 [(.pair (D.lst []) (.pair (.bool false) .unit))]) fun n4 =>
    sel2 n4 ((if (decide ((a0.s.length : Int) ≤ 60)) then
          ou 0 [r1, (.bool (decide ((r1.l.length : Int) ≤ 8)))]
        else
          ou 0 [r1, (.bool false)]).bind fun o2 =>
      sel2 o2.1 (ou 0 [(.pair (gd o2.2 0) (.pair (gd o2.2 1) .unit))]) fun _ => none) fun _ => none) := by kernel_rfl
/-- loop.example/g00300/spec.GoodName -/
theorem q_spec_GoodName (a0 : D) : e_spec_GoodName.F [a0] = rn (
  (e_spec_l1Labels.F [a0]).bind fun r1 =>
  ou 0 [(r1.fld 1)]) := by kernel_rfl
/-- loop.example/g00300/spec.l13Names -/
theorem q_spec_l13Names (a0 : D) : e_spec_l13Names.F [a0] = rn (
  (loopF (fun l1 =>
      if (decide ((gd l1 0).i < (a0.l.length : Int))) then
        if (inb (gd l1 0).i a0.l.length) then
        ((e_spec_GoodName.F [(gd a0.l (gd l1 0).i.toNat)]).bind fun r2 =>
          if (!r2.b) then
            ou 0 [(.bool true)]
          else
            ou 0 [(.bool ((gd a0.l (gd l1 0).i.toNat).s == ([] : List UInt8)))]).bind fun o2 =>
        sel2 o2.1 (if (gd o2.2 0).b then
            ou 1 [(.bool false)]
          else
            if (slOk 0 (gd l1 0).i (a0.l.length : Int)) then
            (loopF (fun l3 =>
                if (decide ((gd l3 0).i < (((a0.l.take (gd l1 0).i.toNat).drop 0).length : Int))) then
                  if (inb (gd l3 0).i ((a0.l.take (gd l1 0).i.toNat).drop 0).length) then
                  if ((gd (D.lst ((a0.l.take (gd l1 0).i.toNat).drop 0)).l (gd l3 0).i.toNat).s == (gd a0.l (gd l1 0).i.toNat).s) then
                    ou 1 [(.bool false)]
                  else
                    ou 0 [(.int (IntKind.wrap .i64 ((gd l3 0).i + 1)))]
                  else none
                else
                  ou 2 []) [(.int 0)]).bind fun o3 =>
            sel2 o3.1 (ou 1 [(gd o3.2 0)]) fun n12 =>
            sel2 n12 (ou 0 [(.int (IntKind.wrap .i64 ((gd l1 0).i + 1)))]) fun _ => none
            else none) fun _ => none
        else none
      else
        ou 2 []) [(.int 0)]).bind fun o1 =>
  sel2 o1.1 (ou 0 [(gd o1.2 0)]) fun n2 =>
  sel2 n2 ((e_spec_l1In.F [(.int (a0.l.length : Int)), (.int 1), (.int 12)]).bind fun r1 =>
    ou 0 [r1]) fun _ => none) := by kernel_rfl
/-- loop.example/g00300/spec.NewHealth -/
theorem q_spec_NewHealth (a0 a1 a2 : D) : e_spec_NewHealth.F [a0, a1, a2] = rn (
  ((e_spec_l1In.F [a0, (.int 1), (.int 10)]).bind fun r3 =>
    if (!r3.b) then
      ou 0 [(.bool true)]
    else
      (e_spec_l1In.F [a1, (.int 1), (.int 10)]).bind fun r4 =>
      if (!r4.b) then
        ou 0 [(.bool true)]
      else
        (e_spec_l13Names.F [a2]).bind fun r5 =>
        ou 0 [(.bool (!r5.b))]).bind fun o3 =>
  sel2 o3.1 (if (gd o3.2 0).b then
      ou 0 [(.pair (.pair (.int 0) (.pair (.int 0) (.pair (D.lst []) .unit))) (.pair (.bool false) .unit))]
    else
      (loopF (fun l4 =>
          if (decide ((gd l4 1).i < (a2.l.length : Int))) then
            if (inb (gd l4 1).i a2.l.length) then
            if (appOk 32 ((gd l4 0).fld 2).l ((.pair (gd a2.l (gd l4 1).i.toNat) (.pair (.bool true) (.pair (.int 0) .unit))) :: ([] : List D))) then
            ou 0 [((gd l4 0).setFld 2 (D.lst (((gd l4 0).fld 2).l ++ ((.pair (gd a2.l (gd l4 1).i.toNat) (.pair (.bool true) (.pair (.int 0) .unit))) :: ([] : List D))))), (.int (IntKind.wrap .i64 ((gd l4 1).i + 1)))]
            else none
            else none
          else
            ou 1 [(gd l4 0)]) [(.pair a0 (.pair a1 (.pair (D.lst []) .unit))), (.int 0)]).bind fun o4 =>
      sel2 o4.1 (ou 0 [(.pair (gd o4.2 0) (.pair (.bool true) .unit))]) fun _ => none) fun _ => none) := by kernel_rfl
/-- loop.example/g00300/spec.l13Most -/
theorem q_spec_l13Most (a0 a1 : D) : e_spec_l13Most.F [a0, a1] = rn (
  if (a1.fld 1).b then
    ou 0 [(a0.fld 1)]
  else
    ou 0 [(a0.fld 0)]) := by kernel_rfl
/-- loop.example/g00300/spec.GoodHealth -/
theorem q_spec_GoodHealth (a0 : D) : e_spec_GoodHealth.F [a0] = rn (
  (loopF (fun l1 =>
      if (decide ((gd l1 1).i < ((a0.fld 2).l.length : Int))) then
        if (inb (gd l1 1).i (a0.fld 2).l.length) then
        (e_spec_l13Most.F [a0, (gd (a0.fld 2).l (gd l1 1).i.toNat)]).bind fun r3 =>
        (e_spec_l1In.F [((gd (a0.fld 2).l (gd l1 1).i.toNat).fld 2), (.int 0), (.int (IntKind.wrap .i64 (r3.i - 1)))]).bind fun r4 =>
        if (!r4.b) then
          ou 1 []
        else
          if (appOk 16 (gd l1 0).l (((gd (a0.fld 2).l (gd l1 1).i.toNat).fld 0) :: ([] : List D))) then
          ou 0 [(D.lst ((gd l1 0).l ++ (((gd (a0.fld 2).l (gd l1 1).i.toNat).fld 0) :: ([] : List D)))), (.int (IntKind.wrap .i64 ((gd l1 1).i + 1)))]
          else none
        else none
      else
        ou 2 [(gd l1 0)]) [(D.lst []), (.int 0)]).bind fun o1 =>
  sel2 o1.1 (ou 0 [(.bool false)]) fun n2 =>
  sel2 n2 (((e_spec_l1In.F [(a0.fld 0), (.int 1), (.int 10)]).bind fun r2 =>
      if r2.b then
        (e_spec_l1In.F [(a0.fld 1), (.int 1), (.int 10)]).bind fun r3 =>
        if r3.b then
          (e_spec_l13Names.F [(gd o1.2 0)]).bind fun r4 =>
          ou 0 [r4]
        else
          ou 0 [(.bool false)]
      else
        ou 0 [(.bool false)]).bind fun o2 =>
    sel2 o2.1 (ou 0 [(gd o2.2 0)]) fun _ => none) fun _ => none) := by kernel_rfl
/-- loop.example/g00300/spec.l13Own -/
theorem q_spec_l13Own (a0 : D) : e_spec_l13Own.F [a0] = rn (
  if (appOk 32 ([] : List D) (a0.fld 2).l) then
  ou 0 [(a0.setFld 2 (D.lst (([] : List D) ++ (a0.fld 2).l)))]
  else none) := by kernel_rfl
/-- loop.example/g00300/spec.TakeProbe -/
theorem q_spec_TakeProbe (a0 a1 : D) : e_spec_TakeProbe.F [a0, a1] = rn (
  ((e_spec_GoodHealth.F [a0]).bind fun r2 =>
    if (!r2.b) then
      ou 0 [(.bool true)]
    else
      (e_spec_l1In.F [(a1.fld 0), (.int 0), (.int (IntKind.wrap .i64 (((a0.fld 2).l.length : Int) - 1)))]).bind fun r3 =>
      ou 0 [(.bool (!r3.b))]).bind fun o2 =>
  sel2 o2.1 (if (gd o2.2 0).b then
      ou 0 [(.pair (.pair (.int 0) (.pair (.int 0) (.pair (D.lst []) .unit))) (.pair (.bool false) (.pair (.bool false) .unit)))]
    else
      (e_spec_l13Own.F [a0]).bind fun r3 =>
      if (inb (a1.fld 0).i (r3.fld 2).l.length) then
      if ((a1.fld 1).b == ((gd (r3.fld 2).l (a1.fld 0).i.toNat).fld 1).b) then
        ou 0 [(.pair (r3.setFld 2 (D.lst ((r3.fld 2).l.set (a1.fld 0).i.toNat ((gd (r3.fld 2).l (a1.fld 0).i.toNat).setFld 2 (.int 0))))) (.pair (.bool false) (.pair (.bool true) .unit)))]
      else
        (e_spec_l13Most.F [r3, (gd (r3.fld 2).l (a1.fld 0).i.toNat)]).bind fun r4 =>
        if (decide ((IntKind.wrap .i64 (((gd (r3.fld 2).l (a1.fld 0).i.toNat).fld 2).i + 1)) < r4.i)) then
          ou 0 [(.pair (r3.setFld 2 (D.lst ((r3.fld 2).l.set (a1.fld 0).i.toNat ((gd (r3.fld 2).l (a1.fld 0).i.toNat).setFld 2 (.int (IntKind.wrap .i64 (((gd (r3.fld 2).l (a1.fld 0).i.toNat).fld 2).i + 1))))))) (.pair (.bool false) (.pair (.bool true) .unit)))]
        else
          ou 0 [(.pair ((r3.setFld 2 (D.lst ((r3.fld 2).l.set (a1.fld 0).i.toNat ((gd (r3.fld 2).l (a1.fld 0).i.toNat).setFld 1 (.bool (!((gd (r3.fld 2).l (a1.fld 0).i.toNat).fld 1).b)))))).setFld 2 (D.lst (((r3.fld 2).l.set (a1.fld 0).i.toNat ((gd (r3.fld 2).l (a1.fld 0).i.toNat).setFld 1 (.bool (!((gd (r3.fld 2).l (a1.fld 0).i.toNat).fld 1).b)))).set (a1.fld 0).i.toNat ((gd (D.lst ((r3.fld 2).l.set (a1.fld 0).i.toNat ((gd (r3.fld 2).l (a1.fld 0).i.toNat).setFld 1 (.bool (!((gd (r3.fld 2).l (a1.fld 0).i.toNat).fld 1).b))))).l (a1.fld 0).i.toNat).setFld 2 (.int 0))))) (.pair (.bool true) (.pair (.bool true) .unit)))]
      else none) fun _ => none) := by kernel_rfl
/-- loop.example/g00300/spec.PlayProbes -/
theorem q_spec_PlayProbes (a0 a1 a2 a3 : D) : e_spec_PlayProbes.F [a0, a1, a2, a3] = rn (
  (e_spec_NewHealth.F [a0, a1, a2]).bind fun r4 =>
  (if (!(r4.fld 1).b) then
      ou 0 [(.bool true)]
    else
      ou 0 [(.bool (decide ((a3.l.length : Int) > 200)))]).bind fun o5 =>
  sel2 o5.1 (if (gd o5.2 0).b then
      ou 0 [(.pair (.pair (.int 0) (.pair (.int 0) (.pair (D.lst []) .unit))) (.pair (.int 0) (.pair (.bool false) .unit)))]
    else
      (loopF (fun l6 =>
          if (decide ((gd l6 2).i < (a3.l.length : Int))) then
            (if (inb (gd l6 2).i a3.l.length) then
              (e_spec_TakeProbe.F [(gd l6 0), (gd a3.l (gd l6 2).i.toNat)]).bind fun r9 =>
              if (!(r9.fld 2).b) then
                ou 1 [(.pair (.int 0) (.pair (.int 0) (.pair (D.lst []) .unit))), (.int 0), (.bool false)]
              else
                if (r9.fld 1).b then
                  ou 0 [(r9.fld 0), (.int (IntKind.wrap .i64 ((gd l6 1).i + 1)))]
                else
                  ou 0 [(r9.fld 0), (gd l6 1)]
              else none).bind fun o9 =>
            sel2 o9.1 (ou 0 [(gd o9.2 0), (gd o9.2 1), (.int (IntKind.wrap .i64 ((gd l6 2).i + 1)))]) fun n12 =>
            sel2 n12 (ou 1 [(gd o9.2 0), (gd o9.2 1), (gd o9.2 2)]) fun _ => none
          else
            ou 2 [(gd l6 0), (gd l6 1)]) [(r4.fld 0), (.int 0), (.int 0)]).bind fun o6 =>
      sel2 o6.1 (ou 0 [(.pair (gd o6.2 0) (.pair (gd o6.2 1) (.pair (gd o6.2 2) .unit)))]) fun n6 =>
      sel2 n6 (ou 0 [(.pair (gd o6.2 0) (.pair (gd o6.2 1) (.pair (.bool true) .unit)))]) fun _ => none) fun _ => none) := by kernel_rfl
/-- loop.example/g00300/laws.sameHealths -/
theorem q_laws_sameHealths (a0 a1 : D) : e_laws_sameHealths.F [a0, a1] = rn (
  (if ((a0.fld 0).i != (a1.fld 0).i) then
      ou 0 [(.bool true)]
    else
      if ((a0.fld 1).i != (a1.fld 1).i) then
        ou 0 [(.bool true)]
      else
        ou 0 [(.bool (((a0.fld 2).l.length : Int) != ((a1.fld 2).l.length : Int)))]).bind fun o2 =>
  sel2 o2.1 (if (gd o2.2 0).b then
      ou 0 [(.bool false)]
    else
      (loopF (fun l3 =>
          if (decide ((gd l3 0).i < ((a0.fld 2).l.length : Int))) then
            if (inb (gd l3 0).i (a0.fld 2).l.length) then
            if (inb (gd l3 0).i (a1.fld 2).l.length) then
            if (!(D.beq (gd (a0.fld 2).l (gd l3 0).i.toNat) (gd (a1.fld 2).l (gd l3 0).i.toNat))) then
              ou 1 [(.bool false)]
            else
              ou 0 [(.int (IntKind.wrap .i64 ((gd l3 0).i + 1)))]
            else none
            else none
          else
            ou 2 []) [(.int 0)]).bind fun o3 =>
      sel2 o3.1 (ou 0 [(gd o3.2 0)]) fun n6 =>
      sel2 n6 (ou 0 [(.bool true)]) fun _ => none) fun _ => none) := by kernel_rfl
/-- loop.example/g00300/impl.RowOf -/
theorem q_impl_RowOf (a0 a1 : D) : e_impl_RowOf.F [a0, a1] = rn (
  ((e_impl_GoodHealth.F [a0]).bind fun r2 =>
    if (!r2.b) then
      ou 0 [(.bool true)]
    else
      (e_impl_within.F [a1, (.int 0), (.int (IntKind.wrap .i64 (((a0.fld 2).l.length : Int) - 1)))]).bind fun r3 =>
      ou 0 [(.bool (!r3.b))]).bind fun o2 =>
  sel2 o2.1 (if (gd o2.2 0).b then
      ou 0 [(.pair (.int 0) (.pair (.bool false) .unit))]
    else
      if (inb a1.i (a0.fld 2).l.length) then
      ou 0 [(.pair ((gd (a0.fld 2).l a1.i.toNat).fld 2) (.pair (.bool true) .unit))]
      else none) fun _ => none) := by kernel_rfl
/-- (loop.example/g00300/impl.Health).findHost$1 -/
theorem q_impl_Health_findHost_1 (a0 a1 : D) : e_impl_Health_findHost_1.F [a0, a1] = rn (
  ou 0 [(.bool ((a0.fld 0).s == a1.s))]) := by kernel_rfl
/-- slices.IndexFunc[[]loop.example/g00300/impl.Host,loop.example/g00300/impl.Host] -/
theorem q_slices_IndexFunc_impl_Host_impl_Host__impl_Health_findHost_1 (a0 a1 : D) : e_slices_IndexFunc_impl_Host_impl_Host__impl_Health_findHost_1.F [a0, a1] = rn (
  (loopF (fun l2 =>
      if (decide ((gd l2 0).i < (a0.l.length : Int))) then
        if (inb (gd l2 0).i a0.l.length) then
        (e_impl_Health_findHost_1.F [(gd a0.l (gd l2 0).i.toNat), (a1.fld 0)]).bind fun r3 =>
        if r3.b then
          ou 1 [(gd l2 0)]
        else
          ou 0 [(.int (IntKind.wrap .i64 ((gd l2 0).i + 1)))]
        else none
      else
        ou 2 []) [(.int 0)]).bind fun o2 =>
  sel2 o2.1 (ou 0 [(gd o2.2 0)]) fun n2 =>
  sel2 n2 (ou 0 [(.int (-1))]) fun _ => none) := by kernel_rfl
/-- (loop.example/g00300/impl.Health).findHost -/
theorem q_impl_Health_findHost (a0 a1 : D) : e_impl_Health_findHost.F [a0, a1] = rn (
  (e_slices_IndexFunc_impl_Host_impl_Host__impl_Health_findHost_1.F [(a0.fld 2), (.pair a1 .unit)]).bind fun r2 =>
  ou 0 [r2]) := by kernel_rfl
/-- loop.example/g00300/impl.IsUp -/
theorem q_impl_IsUp (a0 a1 : D) : e_impl_IsUp.F [a0, a1] = rn (
  (e_impl_GoodHealth.F [a0]).bind fun r2 =>
  if (!r2.b) then
    ou 0 [(.pair (.bool false) (.pair (.bool false) .unit))]
  else
    (e_impl_Health_findHost.F [a0, a1]).bind fun r3 =>
    if (decide (r3.i < 0)) then
      ou 0 [(.pair (.bool false) (.pair (.bool false) .unit))]
    else
      if (inb r3.i (a0.fld 2).l.length) then
      ou 0 [(.pair ((gd (a0.fld 2).l r3.i.toNat).fld 1) (.pair (.bool true) .unit))]
      else none) := by kernel_rfl
/-- loop.example/g00300/laws.FnRows -/
theorem q_laws_FnRows (a0 : D) : e_laws_FnRows.F [a0] = rn (
  if (decide ((a0.l.length : Int) > 1048576)) then
    ou 0 [(.bool true)]
  else
    (e_spec_DrawPlayProbes.F [a0]).bind fun r1 =>
    (e_impl_PlayProbes.F [(r1.fld 0), (r1.fld 1), (r1.fld 2), (r1.fld 3)]).bind fun r2 =>
    (e_spec_PlayProbes.F [(r1.fld 0), (r1.fld 1), (r1.fld 2), (r1.fld 3)]).bind fun r3 =>
    (if (!((r2.fld 2).b == (r3.fld 2).b)) then
        ou 0 [(.bool true)]
      else
        if ((r2.fld 1).i != (r3.fld 1).i) then
          ou 0 [(.bool true)]
        else
          (e_laws_sameHealths.F [(r2.fld 0), (r3.fld 0)]).bind fun r4 =>
          ou 0 [(.bool (!r4.b))]).bind fun o4 =>
    sel2 o4.1 (if (gd o4.2 0).b then
        ou 0 [(.bool false)]
      else
        if (!(r2.fld 2).b) then
          ou 0 [(.bool ((((r2.fld 0).fld 2).l.length : Int) == 0))]
        else
          (loopF (fun l5 =>
              if (decide ((gd l5 1).i < (((r2.fld 0).fld 2).l.length : Int))) then
                if (inb (gd l5 1).i ((r2.fld 0).fld 2).l.length) then
                (loopF (fun l7 =>
                    if (decide ((gd l7 3).i < ((r1.fld 3).l.length : Int))) then
                      (if (inb (gd l7 3).i (r1.fld 3).l.length) then
                        if (((gd (r1.fld 3).l (gd l7 3).i.toNat).fld 0).i != (gd l5 1).i) then
                          ou 0 [(gd l7 0), (gd l7 1), (gd l7 2)]
                        else
                          if (((gd (r1.fld 3).l (gd l7 3).i.toNat).fld 1).b == (gd l7 1).b) then
                            ou 0 [(gd l7 0), (gd l7 1), (.int 0)]
                          else
                            (if (gd l7 1).b then
                                if ((IntKind.wrap .i64 ((gd l7 2).i + 1)) == (r1.fld 1).i) then
                                  ou 0 [(.bool true)]
                                else
                                  if (!(gd l7 1).b) then
                                    ou 0 [(.bool ((IntKind.wrap .i64 ((gd l7 2).i + 1)) == (r1.fld 0).i))]
                                  else
                                    ou 0 [(.bool false)]
                              else
                                if (!(gd l7 1).b) then
                                  ou 0 [(.bool ((IntKind.wrap .i64 ((gd l7 2).i + 1)) == (r1.fld 0).i))]
                                else
                                  ou 0 [(.bool false)]).bind fun o11 =>
                            sel2 o11.1 (if (gd o11.2 0).b then
                                ou 0 [(.int (IntKind.wrap .i64 ((gd l7 0).i + 1))), (.bool (!(gd l7 1).b)), (.int 0)]
                              else
                                ou 0 [(gd l7 0), (gd l7 1), (.int (IntKind.wrap .i64 ((gd l7 2).i + 1)))]) fun _ => none
                        else none).bind fun o11 =>
                      sel2 o11.1 (ou 0 [(gd o11.2 0), (gd o11.2 1), (gd o11.2 2), (.int (IntKind.wrap .i64 ((gd l7 3).i + 1)))]) fun _ => none
                    else
                      ou 1 [(gd l7 0), (gd l7 1), (gd l7 2)]) [(gd l5 0), (.bool true), (.int 0), (.int 0)]).bind fun o7 =>
                sel2 o7.1 ((e_impl_RowOf.F [(r2.fld 0), (gd l5 1)]).bind fun r10 =>
                  (e_impl_IsUp.F [(r2.fld 0), ((gd ((r2.fld 0).fld 2).l (gd l5 1).i.toNat).fld 0)]).bind fun r11 =>
                  (if (!(r10.fld 1).b) then
                      ou 0 [(.bool true)]
                    else
                      if ((r10.fld 0).i != (gd o7.2 2).i) then
                        ou 0 [(.bool true)]
                      else
                        if (!(r11.fld 1).b) then
                          ou 0 [(.bool true)]
                        else
                          ou 0 [(.bool (!((r11.fld 0).b == (gd o7.2 1).b)))]).bind fun o12 =>
                  sel2 o12.1 (if (gd o12.2 0).b then
                      ou 1 [(.bool false)]
                    else
                      ou 0 [(gd o7.2 0), (.int (IntKind.wrap .i64 ((gd l5 1).i + 1)))]) fun _ => none) fun _ => none
                else none
              else
                ou 2 [(gd l5 0)]) [(.int 0), (.int 0)]).bind fun o5 =>
          sel2 o5.1 (ou 0 [(gd o5.2 0)]) fun n10 =>
          sel2 n10 ((if ((gd o5.2 0).i == (r2.fld 1).i) then
                (e_impl_GoodHealth.F [(r2.fld 0)]).bind fun r6 =>
                ou 0 [r6]
              else
                ou 0 [(.bool false)]).bind fun o6 =>
            sel2 o6.1 (ou 0 [(gd o6.2 0)]) fun _ => none) fun _ => none) fun _ => none) := by kernel_rfl
/-- loop.example/g00300/laws.szHost -/
theorem q_laws_szHost (a0 a1 : D) : e_laws_szHost.F [a0, a1] = rn (
  if (decide ((IntKind.wrap .i64 (a1.i - ((a0.fld 0).s.length : Int))) < 0)) then
    ou 0 [(.int (-1))]
  else
    ou 0 [(.int (IntKind.wrap .i64 (a1.i - ((a0.fld 0).s.length : Int))))]) := by kernel_rfl
/-- loop.example/g00300/laws.szHostS -/
theorem q_laws_szHostS (a0 a1 : D) : e_laws_szHostS.F [a0, a1] = rn (
  if (decide ((IntKind.wrap .i64 (a1.i - (a0.l.length : Int))) < 0)) then
    ou 0 [(.int (-1))]
  else
    (loopF (fun l2 =>
        if (decide ((gd l2 1).i < (a0.l.length : Int))) then
          if (inb (gd l2 1).i a0.l.length) then
          (e_laws_szHost.F [(gd a0.l (gd l2 1).i.toNat), (gd l2 0)]).bind fun r4 =>
          if (decide (r4.i < 0)) then
            ou 1 [(.int (-1))]
          else
            ou 0 [r4, (.int (IntKind.wrap .i64 ((gd l2 1).i + 1)))]
          else none
        else
          ou 2 [(gd l2 0)]) [(.int (IntKind.wrap .i64 (a1.i - (a0.l.length : Int)))), (.int 0)]).bind fun o2 =>
    sel2 o2.1 (ou 0 [(gd o2.2 0)]) fun n4 =>
    sel2 n4 (ou 0 [(gd o2.2 0)]) fun _ => none) := by kernel_rfl
/-- loop.example/g00300/laws.szHealth -/
theorem q_laws_szHealth (a0 a1 : D) : e_laws_szHealth.F [a0, a1] = rn (
  (e_laws_szHostS.F [(a0.fld 2), a1]).bind fun r2 =>
  if (decide (r2.i < 0)) then
    ou 0 [(.int (-1))]
  else
    ou 0 [r2]) := by kernel_rfl
/-- loop.example/g00300/laws.toHost -/
theorem q_laws_toHost (a0 : D) : e_laws_toHost.F [a0] = rn (
  ou 0 [(.pair (a0.fld 0) (.pair (a0.fld 1) (.pair (a0.fld 2) .unit)))]) := by kernel_rfl
/-- loop.example/g00300/laws.toHostS -/
theorem q_laws_toHostS (a0 : D) : e_laws_toHostS.F [a0] = rn (
  if (makeOk 32 (a0.l.length : Int)) then
  (loopF (fun l1 =>
      if (decide ((gd l1 1).i < (a0.l.length : Int))) then
        if (inb (gd l1 1).i a0.l.length) then
        (e_laws_toHost.F [(gd a0.l (gd l1 1).i.toNat)]).bind fun r3 =>
        if (inb (gd l1 1).i (gd l1 0).l.length) then
        ou 0 [(D.lst ((gd l1 0).l.set (gd l1 1).i.toNat r3)), (.int (IntKind.wrap .i64 ((gd l1 1).i + 1)))]
        else none
        else none
      else
        ou 1 [(gd l1 0)]) [(D.lst (List.replicate (a0.l.length : Int).toNat (.pair (.str []) (.pair (.bool false) (.pair (.int 0) .unit))))), (.int 0)]).bind fun o1 =>
  sel2 o1.1 (ou 0 [(gd o1.2 0)]) fun _ => none
  else none) := by kernel_rfl
/-- loop.example/g00300/laws.toHealth -/
theorem q_laws_toHealth (a0 : D) : e_laws_toHealth.F [a0] = rn (
  (e_laws_toHostS.F [(a0.fld 2)]).bind fun r1 =>
  ou 0 [(.pair (a0.fld 0) (.pair (a0.fld 1) (.pair r1 .unit)))]) := by kernel_rfl
/-- loop.example/g00300/laws.toProbe -/
theorem q_laws_toProbe (a0 : D) : e_laws_toProbe.F [a0] = rn (
  ou 0 [(.pair (a0.fld 0) (.pair (a0.fld 1) .unit))]) := by kernel_rfl
/-- loop.example/g00300/impl.TakeProbe -/
theorem q_impl_TakeProbe (a0 a1 : D) : e_impl_TakeProbe.F [a0, a1] = rn (
  ((e_impl_GoodHealth.F [a0]).bind fun r2 =>
    if (!r2.b) then
      ou 0 [(.bool true)]
    else
      (e_impl_within.F [(a1.fld 0), (.int 0), (.int (IntKind.wrap .i64 (((a0.fld 2).l.length : Int) - 1)))]).bind fun r3 =>
      ou 0 [(.bool (!r3.b))]).bind fun o2 =>
  sel2 o2.1 (if (gd o2.2 0).b then
      ou 0 [(.pair (.pair (.int 0) (.pair (.int 0) (.pair (D.lst []) .unit))) (.pair (.bool false) (.pair (.bool false) .unit)))]
    else
      (e_impl_probed.F [a0, a1]).bind fun r3 =>
      ou 0 [(.pair (r3.fld 0) (.pair (r3.fld 1) (.pair (.bool true) .unit)))]) fun _ => none) := by kernel_rfl
/-- loop.example/g00300/laws.eqHost -/
theorem q_laws_eqHost (a0 a1 : D) : e_laws_eqHost.F [a0, a1] = rn (
  if (!((a0.fld 0).s == (a1.fld 0).s)) then
    ou 0 [(.bool false)]
  else
    if (!((a0.fld 1).b == (a1.fld 1).b)) then
      ou 0 [(.bool false)]
    else
      if ((a0.fld 2).i != (a1.fld 2).i) then
        ou 0 [(.bool false)]
      else
        ou 0 [(.bool true)]) := by kernel_rfl
/-- loop.example/g00300/laws.eqHostS -/
theorem q_laws_eqHostS (a0 a1 : D) : e_laws_eqHostS.F [a0, a1] = rn (
  if ((a0.l.length : Int) != (a1.l.length : Int)) then
    ou 0 [(.bool false)]
  else
    (loopF (fun l2 =>
        if (decide ((gd l2 0).i < (a0.l.length : Int))) then
          if (inb (gd l2 0).i a0.l.length) then
          if (inb (gd l2 0).i a1.l.length) then
          (e_laws_eqHost.F [(gd a0.l (gd l2 0).i.toNat), (gd a1.l (gd l2 0).i.toNat)]).bind fun r3 =>
          if (!r3.b) then
            ou 1 []
          else
            ou 0 [(.int (IntKind.wrap .i64 ((gd l2 0).i + 1)))]
          else none
          else none
        else
          ou 2 []) [(.int 0)]).bind fun o2 =>
    sel2 o2.1 (ou 0 [(.bool false)]) fun n4 =>
    sel2 n4 (ou 0 [(.bool true)]) fun _ => none) := by kernel_rfl
/-- loop.example/g00300/laws.eqHealth -/
theorem q_laws_eqHealth (a0 a1 : D) : e_laws_eqHealth.F [a0, a1] = rn (
  if ((a0.fld 0).i != (a1.fld 0).i) then
    ou 0 [(.bool false)]
  else
    if ((a0.fld 1).i != (a1.fld 1).i) then
      ou 0 [(.bool false)]
    else
      (e_laws_eqHostS.F [(a0.fld 2), (a1.fld 2)]).bind fun r2 =>
      if (!r2.b) then
        ou 0 [(.bool false)]
      else
        ou 0 [(.bool true)]) := by kernel_rfl
/-- loop.example/g00300/laws.markText -/
theorem q_laws_markText (a0 : D) : e_laws_markText.F [a0] = rn (
  if (decide (a0.i ≤ 0)) then
    ou 0 [(D.str [109, 48])]
  else
    (loopF (fun l1 =>
        if (decide ((gd l1 0).i > 0)) then
          if (10 != 0) then
          if (catOk (bytesStr ((.int (IntKind.wrap .u8 (IntKind.wrap .i64 (48 + ((gd l1 0).i.tmod 10))))) :: ([] : List D))) (gd l1 1).s) then
          ou 0 [(.int (IntKind.wrap .i64 ((gd l1 0).i.tdiv 10))), (.str ((bytesStr ((.int (IntKind.wrap .u8 (IntKind.wrap .i64 (48 + ((gd l1 0).i.tmod 10))))) :: ([] : List D))) ++ (gd l1 1).s))]
          else none
          else none
        else
          ou 1 [(gd l1 1)]) [a0, (D.str [])]).bind fun o1 =>
    sel2 o1.1 (if (catOk ([109] : List UInt8) (gd o1.2 0).s) then
      ou 0 [(.str (([109] : List UInt8) ++ (gd o1.2 0).s))]
      else none) fun _ => none) := by kernel_rfl
/-- loop.example/g00300/laws.markHostS -/
theorem q_laws_markHostS (a0 a1 : D) : e_laws_markHostS.F [a0, a1] = rn (
  (loopF (fun l2 =>
      if (decide ((gd l2 2).i < ((gd l2 0).l.length : Int))) then
        (e_laws_markText.F [(gd l2 1)]).bind fun r5 =>
        if (inb (gd l2 2).i (gd l2 0).l.length) then
        if (3 != 0) then
        ou 0 [(D.lst ((((gd l2 0).l.set (gd l2 2).i.toNat ((gd (gd l2 0).l (gd l2 2).i.toNat).setFld 0 r5)).set (gd l2 2).i.toNat ((gd (D.lst ((gd l2 0).l.set (gd l2 2).i.toNat ((gd (gd l2 0).l (gd l2 2).i.toNat).setFld 0 r5))).l (gd l2 2).i.toNat).setFld 1 (.bool (((IntKind.wrap .i64 ((gd l2 1).i + 1)).tmod 3) == 0)))).set (gd l2 2).i.toNat ((gd (D.lst (((gd l2 0).l.set (gd l2 2).i.toNat ((gd (gd l2 0).l (gd l2 2).i.toNat).setFld 0 r5)).set (gd l2 2).i.toNat ((gd (D.lst ((gd l2 0).l.set (gd l2 2).i.toNat ((gd (gd l2 0).l (gd l2 2).i.toNat).setFld 0 r5))).l (gd l2 2).i.toNat).setFld 1 (.bool (((IntKind.wrap .i64 ((gd l2 1).i + 1)).tmod 3) == 0))))).l (gd l2 2).i.toNat).setFld 2 (.int (IntKind.wrap .i64 ((IntKind.wrap .i64 ((gd l2 1).i + 1)) + 1)))))), (.int (IntKind.wrap .i64 ((IntKind.wrap .i64 ((IntKind.wrap .i64 ((gd l2 1).i + 1)) + 1)) + 1))), (.int (IntKind.wrap .i64 ((gd l2 2).i + 1)))]
        else none
        else none
      else
        ou 1 [(gd l2 0), (gd l2 1)]) [a0, a1, (.int 0)]).bind fun o2 =>
  sel2 o2.1 (ou 0 [(.pair (gd o2.2 1) (.pair (gd o2.2 0) .unit))]) fun _ => none) := by kernel_rfl
/-- loop.example/g00300/laws.markHealth -/
theorem q_laws_markHealth (a0 a1 : D) : e_laws_markHealth.F [a0, a1] = rn (
  (e_laws_markHostS.F [(a0.fld 2), a1]).bind fun r2 =>
  ou 0 [(.pair (r2.fld 0) (.pair (D.mix (.pair (.int .i64) (.pair (.int .i64) (.pair (.lst true (.pair .str (.pair .bool (.pair (.int .i64) .unit)))) .unit))) a0 (a0.setFld 2 (r2.fld 1))) .unit))]) := by kernel_rfl
/-- loop.example/g00300/laws.heldHostS -/
theorem q_laws_heldHostS (a0 a1 : D) : e_laws_heldHostS.F [a0, a1] = rn (
  (loopF (fun l2 =>
      if (decide ((gd l2 1).i < (a0.l.length : Int))) then
        if (inb (gd l2 1).i a0.l.length) then
        (e_laws_markText.F [(gd l2 0)]).bind fun r4 =>
        if (!(((gd a0.l (gd l2 1).i.toNat).fld 0).s == r4.s)) then
          ou 1 [(.int (-1))]
        else
          if (3 != 0) then
          if (!(((gd a0.l (gd l2 1).i.toNat).fld 1).b == (((IntKind.wrap .i64 ((gd l2 0).i + 1)).tmod 3) == 0))) then
            ou 1 [(.int (-1))]
          else
            if (((gd a0.l (gd l2 1).i.toNat).fld 2).i != (IntKind.wrap .i64 ((IntKind.wrap .i64 ((gd l2 0).i + 1)) + 1))) then
              ou 1 [(.int (-1))]
            else
              ou 0 [(.int (IntKind.wrap .i64 ((IntKind.wrap .i64 ((IntKind.wrap .i64 ((gd l2 0).i + 1)) + 1)) + 1))), (.int (IntKind.wrap .i64 ((gd l2 1).i + 1)))]
          else none
        else none
      else
        ou 2 [(gd l2 0)]) [a1, (.int 0)]).bind fun o2 =>
  sel2 o2.1 (ou 0 [(gd o2.2 0)]) fun n2 =>
  sel2 n2 (ou 0 [(gd o2.2 0)]) fun _ => none) := by kernel_rfl
/-- loop.example/g00300/laws.heldHealth -/
theorem q_laws_heldHealth (a0 a1 : D) : e_laws_heldHealth.F [a0, a1] = rn (
  (e_laws_heldHostS.F [(a0.fld 2), a1]).bind fun r2 =>
  if (decide (r2.i < 0)) then
    ou 0 [(.int (-1))]
  else
    ou 0 [r2]) := by kernel_rfl
/-- loop.example/g00300/laws.FnExactTakeProbe -/
theorem q_laws_FnExactTakeProbe (a0 a1 : D) : e_laws_FnExactTakeProbe.F [a0, a1] = rn (
  (e_laws_szHealth.F [a0, (.int 1048576)]).bind fun r2 =>
  if (decide (r2.i < 0)) then
    ou 0 [(.bool true)]
  else
    (e_laws_toHealth.F [a0]).bind fun r3 =>
    (e_laws_toProbe.F [a1]).bind fun r4 =>
    (e_spec_TakeProbe.F [r3, r4]).bind fun r5 =>
    (e_laws_toHealth.F [a0]).bind fun r6 =>
    (e_laws_toProbe.F [a1]).bind fun r7 =>
    (e_impl_TakeProbe.F [r6, r7]).bind fun r8 =>
    ((e_laws_eqHealth.F [(r8.fld 0), (r5.fld 0)]).bind fun r9 =>
      if (!r9.b) then
        ou 0 [(.bool true)]
      else
        if (!((r8.fld 1).b == (r5.fld 1).b)) then
          ou 0 [(.bool true)]
        else
          ou 0 [(.bool (!((r8.fld 2).b == (r5.fld 2).b)))]).bind fun o9 =>
    sel2 o9.1 (if (gd o9.2 0).b then
        ou 0 [(.bool false)]
      else
        (e_laws_toHealth.F [a0]).bind fun r10 =>
        (e_laws_eqHealth.F [r6, r10]).bind fun r11 =>
        if (!r11.b) then
          ou 0 [(.bool false)]
        else
          (e_laws_markHealth.F [r6, (.int 1)]).bind fun r12 =>
          (if (decide ((r12.fld 0).i < 0)) then
              ou 0 [(.bool true)]
            else
              (e_laws_eqHealth.F [(r8.fld 0), (r5.fld 0)]).bind fun r13 =>
              if (!r13.b) then
                ou 0 [(.bool true)]
              else
                if (!((r8.fld 1).b == (r5.fld 1).b)) then
                  ou 0 [(.bool true)]
                else
                  ou 0 [(.bool (!((r8.fld 2).b == (r5.fld 2).b)))]).bind fun o13 =>
          sel2 o13.1 (if (gd o13.2 0).b then
              ou 0 [(.bool false)]
            else
              (e_laws_markHealth.F [(r8.fld 0), (.int 1)]).bind fun r14 =>
              (e_laws_heldHealth.F [(.pair ((r8.fld 0).fld 0) (.pair ((r8.fld 0).fld 1) (.pair ((r14.fld 1).fld 2) .unit))), (.int 1)]).bind fun r15 =>
              if (decide (r15.i < 0)) then
                ou 0 [(.bool false)]
              else
                if (r15.i != (r14.fld 0).i) then
                  ou 0 [(.bool false)]
                else
                  (e_laws_toHealth.F [a0]).bind fun r16 =>
                  (e_laws_toProbe.F [a1]).bind fun r17 =>
                  (e_impl_TakeProbe.F [r16, r17]).bind fun r18 =>
                  ((e_laws_eqHealth.F [(r18.fld 0), (r5.fld 0)]).bind fun r19 =>
                    if (!r19.b) then
                      ou 0 [(.bool true)]
                    else
                      if (!((r18.fld 1).b == (r5.fld 1).b)) then
                        ou 0 [(.bool true)]
                      else
                        ou 0 [(.bool (!((r18.fld 2).b == (r5.fld 2).b)))]).bind fun o19 =>
                  sel2 o19.1 (if (gd o19.2 0).b then
                      ou 0 [(.bool false)]
                    else
                      (e_laws_heldHealth.F [(.pair ((r8.fld 0).fld 0) (.pair ((r8.fld 0).fld 1) (.pair ((r14.fld 1).fld 2) .unit))), (.int 1)]).bind fun r20 =>
                      if (decide (r20.i < 0)) then
                        ou 0 [(.bool false)]
                      else
                        if (r20.i != (r14.fld 0).i) then
                          ou 0 [(.bool false)]
                        else
                          ou 0 [(.bool true)]) fun _ => none) fun _ => none) fun _ => none) := by kernel_rfl
/-- (*loop.example/g00300/spec.l1Cur).health -/
theorem q_spec_l1Cur_health (a0 : D) : e_spec_l1Cur_health.F [a0] = rn (
  (e_spec_l1Cur_hosts.F [a0]).bind fun r1 =>
  (e_spec_l1Cur_probes.F [(r1.fld 1), (.int ((r1.fld 0).l.length : Int))]).bind fun r2 =>
  (if (decide (((r2.fld 0).l.length : Int) > 40)) then
      if (slOk 0 40 ((r2.fld 0).l.length : Int)) then
      if (winOk 0 ((40 - 0 : Nat) : Int).toNat (r2.fld 0).l) then
      ou 0 [(D.lst (((r2.fld 0).l.drop 0).take ((40 - 0 : Nat) : Int).toNat))]
      else none
      else none
    else
      ou 0 [(r2.fld 0)]).bind fun o3 =>
  sel2 o3.1 ((e_spec_l1Cur_pick.F [(r2.fld 1), (.int 3)]).bind fun r4 =>
    (e_spec_l1Cur_pick.F [(r4.fld 1), (.int 3)]).bind fun r5 =>
    (e_spec_PlayProbes.F [(.int (IntKind.wrap .i64 (1 + (r4.fld 0).i))), (.int (IntKind.wrap .i64 (1 + (r5.fld 0).i))), (r1.fld 0), (gd o3.2 0)]).bind fun r6 =>
    (if (!(r6.fld 2).b) then
        (e_spec_NewHealth.F [(.int 2), (.int 2), (D.lst ((D.str [97, 46, 101, 120, 46, 99, 111, 109]) :: ([] : List D)))]).bind fun r7 =>
        ou 0 [(r7.fld 0)]
      else
        ou 0 [(r6.fld 0)]).bind fun o7 =>
    sel2 o7.1 (((e_spec_l1Cur_one.F [(r5.fld 1), (.int 20)]).bind fun r8 =>
        if (r8.fld 0).b then
          if (inb 0 ((gd o7.2 0).fld 2).l.length) then
          (e_spec_l1Cur_pick.F [(r8.fld 1), (.int 4)]).bind fun r9 =>
          ou 0 [(r9.fld 1), ((gd o7.2 0).setFld 2 (D.lst (((gd o7.2 0).fld 2).l.set 0 ((gd ((gd o7.2 0).fld 2).l 0).setFld 2 (.int (IntKind.wrap .i64 (((gd ((gd o7.2 0).fld 2).l 0).fld 2).i + (r9.fld 0).i)))))))]
          else none
        else
          ou 0 [(r8.fld 1), (gd o7.2 0)]).bind fun o8 =>
      sel2 o8.1 (ou 0 [(.pair (gd o8.2 1) (.pair (gd o8.2 0) .unit))]) fun _ => none) fun _ => none) fun _ => none) := by kernel_rfl
/-- loop.example/g00300/spec.DrawTakeProbe -/
theorem q_spec_DrawTakeProbe (a0 : D) : e_spec_DrawTakeProbe.F [a0] = rn (
  (e_spec_l1Cur_health.F [(.pair a0 (.pair (.int 0) (.pair (.int 0) .unit)))]).bind fun r1 =>
  (e_spec_l1Cur_pick.F [(r1.fld 1), (.int (IntKind.wrap .i64 ((((r1.fld 0).fld 2).l.length : Int) + 2)))]).bind fun r2 =>
  (e_spec_l1Cur_one.F [(r2.fld 1), (.int 2)]).bind fun r3 =>
  ou 0 [(.pair (r1.fld 0) (.pair (.pair (.int (IntKind.wrap .i64 ((r2.fld 0).i - 1))) (.pair (r3.fld 0) .unit)) .unit))]) := by kernel_rfl
/-- loop.example/g00300/spec.DrawGoodHealth -/
theorem q_spec_DrawGoodHealth (a0 : D) : e_spec_DrawGoodHealth.F [a0] = rn (
  (e_spec_l1Cur_health.F [(.pair a0 (.pair (.int 0) (.pair (.int 0) .unit)))]).bind fun r1 =>
  ou 0 [(r1.fld 0)]) := by kernel_rfl
/-- loop.example/g00300/spec.DrawUpIn -/
theorem q_spec_DrawUpIn (a0 : D) : e_spec_DrawUpIn.F [a0] = rn (
  (e_spec_DrawGoodHealth.F [a0]).bind fun r1 =>
  ou 0 [r1]) := by kernel_rfl
/-- loop.example/g00300/impl.UpIn -/
theorem q_impl_UpIn (a0 : D) : e_impl_UpIn.F [a0] = rn (
  (e_impl_GoodHealth.F [a0]).bind fun r1 =>
  if (!r1.b) then
    ou 0 [(.pair (D.lst []) (.pair (.bool false) .unit))]
  else
    (loopF (fun l2 =>
        if (decide ((gd l2 1).i < ((a0.fld 2).l.length : Int))) then
          (if (inb (gd l2 1).i (a0.fld 2).l.length) then
            if ((gd (a0.fld 2).l (gd l2 1).i.toNat).fld 1).b then
              if (appOk 16 (gd l2 0).l (((gd (a0.fld 2).l (gd l2 1).i.toNat).fld 0) :: ([] : List D))) then
              ou 0 [(D.lst ((gd l2 0).l ++ (((gd (a0.fld 2).l (gd l2 1).i.toNat).fld 0) :: ([] : List D))))]
              else none
            else
              ou 0 [(gd l2 0)]
            else none).bind fun o4 =>
          sel2 o4.1 (ou 0 [(gd o4.2 0), (.int (IntKind.wrap .i64 ((gd l2 1).i + 1)))]) fun _ => none
        else
          ou 1 [(gd l2 0)]) [(D.lst []), (.int 0)]).bind fun o2 =>
    sel2 o2.1 (ou 0 [(.pair (gd o2.2 0) (.pair (.bool true) .unit))]) fun _ => none) := by kernel_rfl
/-- loop.example/g00300/spec.UpIn -/
theorem q_spec_UpIn (a0 : D) : e_spec_UpIn.F [a0] = rn (
  (e_spec_GoodHealth.F [a0]).bind fun r1 =>
  if (!r1.b) then
    ou 0 [(.pair (D.lst []) (.pair (.bool false) .unit))]
  else
    (loopF (fun l2 =>
        if (decide ((gd l2 1).i < ((a0.fld 2).l.length : Int))) then
          (if (inb (gd l2 1).i (a0.fld 2).l.length) then
            if ((gd (a0.fld 2).l (gd l2 1).i.toNat).fld 1).b then
              if (appOk 16 (gd l2 0).l (((gd (a0.fld 2).l (gd l2 1).i.toNat).fld 0) :: ([] : List D))) then
              ou 0 [(D.lst ((gd l2 0).l ++ (((gd (a0.fld 2).l (gd l2 1).i.toNat).fld 0) :: ([] : List D))))]
              else none
            else
              ou 0 [(gd l2 0)]
            else none).bind fun o4 =>
          sel2 o4.1 (ou 0 [(gd o4.2 0), (.int (IntKind.wrap .i64 ((gd l2 1).i + 1)))]) fun _ => none
        else
          ou 1 [(gd l2 0)]) [(D.lst []), (.int 0)]).bind fun o2 =>
    sel2 o2.1 (ou 0 [(.pair (gd o2.2 0) (.pair (.bool true) .unit))]) fun _ => none) := by kernel_rfl
/-- loop.example/g00300/laws.sameTexts -/
theorem q_laws_sameTexts (a0 a1 : D) : e_laws_sameTexts.F [a0, a1] = rn (
  if ((a0.l.length : Int) != (a1.l.length : Int)) then
    ou 0 [(.bool false)]
  else
    (loopF (fun l2 =>
        if (decide ((gd l2 0).i < (a0.l.length : Int))) then
          if (inb (gd l2 0).i a0.l.length) then
          if (inb (gd l2 0).i a1.l.length) then
          if (!((gd a0.l (gd l2 0).i.toNat).s == (gd a1.l (gd l2 0).i.toNat).s)) then
            ou 1 []
          else
            ou 0 [(.int (IntKind.wrap .i64 ((gd l2 0).i + 1)))]
          else none
          else none
        else
          ou 2 []) [(.int 0)]).bind fun o2 =>
    sel2 o2.1 (ou 0 [(.bool false)]) fun n4 =>
    sel2 n4 (ou 0 [(.bool true)]) fun _ => none) := by kernel_rfl
/-- loop.example/g00300/laws.FnProbes -/
theorem q_laws_FnProbes (a0 a1 : D) : e_laws_FnProbes.F [a0, a1] = rn (
  if (decide ((IntKind.wrap .i64 ((a0.l.length : Int) + (a1.l.length : Int))) > 1048576)) then
    ou 0 [(.bool true)]
  else
    (e_spec_DrawTakeProbe.F [a0]).bind fun r2 =>
    (e_impl_TakeProbe.F [(r2.fld 0), (r2.fld 1)]).bind fun r3 =>
    (e_spec_TakeProbe.F [(r2.fld 0), (r2.fld 1)]).bind fun r4 =>
    (if (!((r3.fld 2).b == (r4.fld 2).b)) then
        ou 0 [(.bool true)]
      else
        if (!((r3.fld 1).b == (r4.fld 1).b)) then
          ou 0 [(.bool true)]
        else
          (e_laws_sameHealths.F [(r3.fld 0), (r4.fld 0)]).bind fun r5 =>
          if (!r5.b) then
            ou 0 [(.bool true)]
          else
            (e_impl_GoodHealth.F [(r2.fld 0)]).bind fun r6 =>
            (e_spec_GoodHealth.F [(r2.fld 0)]).bind fun r7 =>
            ou 0 [(.bool (!(r6.b == r7.b)))]).bind fun o5 =>
    sel2 o5.1 (if (gd o5.2 0).b then
        ou 0 [(.bool false)]
      else
        (if (r3.fld 2).b then
            (loopF (fun l6 =>
                if (decide ((gd l6 0).i < (((r2.fld 0).fld 2).l.length : Int))) then
                  (if ((gd l6 0).i != ((r2.fld 1).fld 0).i) then
                      if (inb (gd l6 0).i ((r3.fld 0).fld 2).l.length) then
                      if (inb (gd l6 0).i ((r2.fld 0).fld 2).l.length) then
                      ou 0 [(.bool (!(D.beq (gd ((r3.fld 0).fld 2).l (gd l6 0).i.toNat) (gd ((r2.fld 0).fld 2).l (gd l6 0).i.toNat))))]
                      else none
                      else none
                    else
                      ou 0 [(.bool false)]).bind fun o7 =>
                  sel2 o7.1 (if (gd o7.2 0).b then
                      ou 1 [(.bool false)]
                    else
                      ou 0 [(.int (IntKind.wrap .i64 ((gd l6 0).i + 1)))]) fun _ => none
                else
                  ou 2 []) [(.int 0)]).bind fun o6 =>
            sel2 o6.1 (ou 1 [(gd o6.2 0)]) fun n12 =>
            sel2 n12 ((if (inb ((r2.fld 1).fld 0).i ((r3.fld 0).fld 2).l.length) then
                if (inb ((r2.fld 1).fld 0).i ((r2.fld 0).fld 2).l.length) then
                if (!((r3.fld 1).b == (!(((gd ((r3.fld 0).fld 2).l ((r2.fld 1).fld 0).i.toNat).fld 1).b == ((gd ((r2.fld 0).fld 2).l ((r2.fld 1).fld 0).i.toNat).fld 1).b)))) then
                  ou 0 [(.bool true)]
                else
                  (e_impl_GoodHealth.F [(r3.fld 0)]).bind fun r6 =>
                  ou 0 [(.bool (!r6.b))]
                else none
                else none).bind fun o6 =>
              sel2 o6.1 (if (gd o6.2 0).b then
                  ou 1 [(.bool false)]
                else
                  ou 0 []) fun _ => none) fun _ => none
          else
            ou 0 []).bind fun o6 =>
        sel2 o6.1 ((e_spec_DrawUpIn.F [a1]).bind fun r6 =>
          (e_impl_UpIn.F [r6]).bind fun r7 =>
          (e_spec_UpIn.F [r6]).bind fun r8 =>
          (if (!((r7.fld 1).b == (r8.fld 1).b)) then
              ou 0 [(.bool true)]
            else
              (e_laws_sameTexts.F [(r7.fld 0), (r8.fld 0)]).bind fun r9 =>
              ou 0 [(.bool (!r9.b))]).bind fun o9 =>
          sel2 o9.1 (if (gd o9.2 0).b then
              ou 0 [(.bool false)]
            else
              (loopF (fun l10 =>
                  if (decide ((gd l10 0).i < ((r7.fld 0).l.length : Int))) then
                    if (inb (gd l10 0).i (r7.fld 0).l.length) then
                    (e_impl_IsUp.F [r6, (gd (r7.fld 0).l (gd l10 0).i.toNat)]).bind fun r11 =>
                    (if (!(r11.fld 1).b) then
                        ou 0 [(.bool true)]
                      else
                        ou 0 [(.bool (!(r11.fld 0).b))]).bind fun o12 =>
                    sel2 o12.1 (if (gd o12.2 0).b then
                        ou 1 [(.bool false)]
                      else
                        ou 0 [(.int (IntKind.wrap .i64 ((gd l10 0).i + 1)))]) fun _ => none
                    else none
                  else
                    ou 2 []) [(.int 0)]).bind fun o10 =>
              sel2 o10.1 (ou 0 [(gd o10.2 0)]) fun n14 =>
              sel2 n14 (ou 0 [(.bool true)]) fun _ => none) fun _ => none) fun n8 =>
        sel2 n8 (ou 0 [(gd o6.2 0)]) fun _ => none) fun _ => none) := by kernel_rfl
/-- loop.example/g00300/laws.szStringS -/
theorem q_laws_szStringS (a0 a1 : D) : e_laws_szStringS.F [a0, a1] = rn (
  if (decide ((IntKind.wrap .i64 (a1.i - (a0.l.length : Int))) < 0)) then
    ou 0 [(.int (-1))]
  else
    (loopF (fun l2 =>
        if (decide ((gd l2 1).i < (a0.l.length : Int))) then
          if (inb (gd l2 1).i a0.l.length) then
          if (decide ((IntKind.wrap .i64 ((gd l2 0).i - ((gd a0.l (gd l2 1).i.toNat).s.length : Int))) < 0)) then
            ou 1 [(.int (-1))]
          else
            ou 0 [(.int (IntKind.wrap .i64 ((gd l2 0).i - ((gd a0.l (gd l2 1).i.toNat).s.length : Int)))), (.int (IntKind.wrap .i64 ((gd l2 1).i + 1)))]
          else none
        else
          ou 2 [(gd l2 0)]) [(.int (IntKind.wrap .i64 (a1.i - (a0.l.length : Int)))), (.int 0)]).bind fun o2 =>
    sel2 o2.1 (ou 0 [(gd o2.2 0)]) fun n4 =>
    sel2 n4 (ou 0 [(gd o2.2 0)]) fun _ => none) := by kernel_rfl
/-- loop.example/g00300/laws.szProbeS -/
theorem q_laws_szProbeS (a0 a1 : D) : e_laws_szProbeS.F [a0, a1] = rn (
  if (decide ((IntKind.wrap .i64 (a1.i - (a0.l.length : Int))) < 0)) then
    ou 0 [(.int (-1))]
  else
    ou 0 [(.int (IntKind.wrap .i64 (a1.i - (a0.l.length : Int))))]) := by kernel_rfl
/-- loop.example/g00300/laws.toStringS -/
theorem q_laws_toStringS (a0 : D) : e_laws_toStringS.F [a0] = rn (
  if (makeOk 16 (a0.l.length : Int)) then
  (loopF (fun l1 =>
      if (decide ((gd l1 1).i < (a0.l.length : Int))) then
        if (inb (gd l1 1).i a0.l.length) then
        if (inb (gd l1 1).i (gd l1 0).l.length) then
        ou 0 [(D.lst ((gd l1 0).l.set (gd l1 1).i.toNat (gd a0.l (gd l1 1).i.toNat))), (.int (IntKind.wrap .i64 ((gd l1 1).i + 1)))]
        else none
        else none
      else
        ou 1 [(gd l1 0)]) [(D.lst (List.replicate (a0.l.length : Int).toNat (.str []))), (.int 0)]).bind fun o1 =>
  sel2 o1.1 (ou 0 [(gd o1.2 0)]) fun _ => none
  else none) := by kernel_rfl
/-- loop.example/g00300/laws.toProbeS -/
theorem q_laws_toProbeS (a0 : D) : e_laws_toProbeS.F [a0] = rn (
  if (makeOk 16 (a0.l.length : Int)) then
  (loopF (fun l1 =>
      if (decide ((gd l1 1).i < (a0.l.length : Int))) then
        if (inb (gd l1 1).i a0.l.length) then
        (e_laws_toProbe.F [(gd a0.l (gd l1 1).i.toNat)]).bind fun r3 =>
        if (inb (gd l1 1).i (gd l1 0).l.length) then
        ou 0 [(D.lst ((gd l1 0).l.set (gd l1 1).i.toNat r3)), (.int (IntKind.wrap .i64 ((gd l1 1).i + 1)))]
        else none
        else none
      else
        ou 1 [(gd l1 0)]) [(D.lst (List.replicate (a0.l.length : Int).toNat (.pair (.int 0) (.pair (.bool false) .unit)))), (.int 0)]).bind fun o1 =>
  sel2 o1.1 (ou 0 [(gd o1.2 0)]) fun _ => none
  else none) := by kernel_rfl
/-- loop.example/g00300/laws.eqStringS -/
theorem q_laws_eqStringS (a0 a1 : D) : e_laws_eqStringS.F [a0, a1] = rn (
  if ((a0.l.length : Int) != (a1.l.length : Int)) then
    ou 0 [(.bool false)]
  else
    (loopF (fun l2 =>
        if (decide ((gd l2 0).i < (a0.l.length : Int))) then
          if (inb (gd l2 0).i a0.l.length) then
          if (inb (gd l2 0).i a1.l.length) then
          if (!((gd a0.l (gd l2 0).i.toNat).s == (gd a1.l (gd l2 0).i.toNat).s)) then
            ou 1 []
          else
            ou 0 [(.int (IntKind.wrap .i64 ((gd l2 0).i + 1)))]
          else none
          else none
        else
          ou 2 []) [(.int 0)]).bind fun o2 =>
    sel2 o2.1 (ou 0 [(.bool false)]) fun n4 =>
    sel2 n4 (ou 0 [(.bool true)]) fun _ => none) := by kernel_rfl
/-- loop.example/g00300/laws.eqProbe -/
theorem q_laws_eqProbe (a0 a1 : D) : e_laws_eqProbe.F [a0, a1] = rn (
  if ((a0.fld 0).i != (a1.fld 0).i) then
    ou 0 [(.bool false)]
  else
    if (!((a0.fld 1).b == (a1.fld 1).b)) then
      ou 0 [(.bool false)]
    else
      ou 0 [(.bool true)]) := by kernel_rfl
/-- loop.example/g00300/laws.eqProbeS -/
theorem q_laws_eqProbeS (a0 a1 : D) : e_laws_eqProbeS.F [a0, a1] = rn (
  if ((a0.l.length : Int) != (a1.l.length : Int)) then
    ou 0 [(.bool false)]
  else
    (loopF (fun l2 =>
        if (decide ((gd l2 0).i < (a0.l.length : Int))) then
          if (inb (gd l2 0).i a0.l.length) then
          if (inb (gd l2 0).i a1.l.length) then
          (e_laws_eqProbe.F [(gd a0.l (gd l2 0).i.toNat), (gd a1.l (gd l2 0).i.toNat)]).bind fun r3 =>
          if (!r3.b) then
            ou 1 []
          else
            ou 0 [(.int (IntKind.wrap .i64 ((gd l2 0).i + 1)))]
          else none
          else none
        else
          ou 2 []) [(.int 0)]).bind fun o2 =>
    sel2 o2.1 (ou 0 [(.bool false)]) fun n4 =>
    sel2 n4 (ou 0 [(.bool true)]) fun _ => none) := by kernel_rfl
/-- loop.example/g00300/laws.markStringS -/
theorem q_laws_markStringS (a0 a1 : D) : e_laws_markStringS.F [a0, a1] = rn (
  (loopF (fun l2 =>
      if (decide ((gd l2 2).i < ((gd l2 0).l.length : Int))) then
        (e_laws_markText.F [(gd l2 1)]).bind fun r5 =>
        if (inb (gd l2 2).i (gd l2 0).l.length) then
        ou 0 [(D.lst ((gd l2 0).l.set (gd l2 2).i.toNat r5)), (.int (IntKind.wrap .i64 ((gd l2 1).i + 1))), (.int (IntKind.wrap .i64 ((gd l2 2).i + 1)))]
        else none
      else
        ou 1 [(gd l2 0), (gd l2 1)]) [a0, a1, (.int 0)]).bind fun o2 =>
  sel2 o2.1 (ou 0 [(.pair (gd o2.2 1) (.pair (gd o2.2 0) .unit))]) fun _ => none) := by kernel_rfl
/-- loop.example/g00300/laws.markProbeS -/
theorem q_laws_markProbeS (a0 a1 : D) : e_laws_markProbeS.F [a0, a1] = rn (
  (loopF (fun l2 =>
      if (decide ((gd l2 2).i < ((gd l2 0).l.length : Int))) then
        if (inb (gd l2 2).i (gd l2 0).l.length) then
        if (3 != 0) then
        ou 0 [(D.lst (((gd l2 0).l.set (gd l2 2).i.toNat ((gd (gd l2 0).l (gd l2 2).i.toNat).setFld 0 (gd l2 1))).set (gd l2 2).i.toNat ((gd (D.lst ((gd l2 0).l.set (gd l2 2).i.toNat ((gd (gd l2 0).l (gd l2 2).i.toNat).setFld 0 (gd l2 1)))).l (gd l2 2).i.toNat).setFld 1 (.bool (((IntKind.wrap .i64 ((gd l2 1).i + 1)).tmod 3) == 0))))), (.int (IntKind.wrap .i64 ((IntKind.wrap .i64 ((gd l2 1).i + 1)) + 1))), (.int (IntKind.wrap .i64 ((gd l2 2).i + 1)))]
        else none
        else none
      else
        ou 1 [(gd l2 0), (gd l2 1)]) [a0, a1, (.int 0)]).bind fun o2 =>
  sel2 o2.1 (ou 0 [(.pair (gd o2.2 1) (.pair (gd o2.2 0) .unit))]) fun _ => none) := by kernel_rfl
/-- loop.example/g00300/laws.FnExactPlayProbes -/
theorem q_laws_FnExactPlayProbes (a0 a1 a2 a3 : D) : e_laws_FnExactPlayProbes.F [a0, a1, a2, a3] = rn (
  (e_laws_szStringS.F [a2, (.int 1048576)]).bind fun r4 =>
  if (decide (r4.i < 0)) then
    ou 0 [(.bool true)]
  else
    (e_laws_szProbeS.F [a3, r4]).bind fun r5 =>
    if (decide (r5.i < 0)) then
      ou 0 [(.bool true)]
    else
      (e_laws_toStringS.F [a2]).bind fun r6 =>
      (e_laws_toProbeS.F [a3]).bind fun r7 =>
      (e_spec_PlayProbes.F [a0, a1, r6, r7]).bind fun r8 =>
      (e_laws_toStringS.F [a2]).bind fun r9 =>
      (e_laws_toProbeS.F [a3]).bind fun r10 =>
      (e_impl_PlayProbes.F [a0, a1, r9, r10]).bind fun r11 =>
      ((e_laws_eqHealth.F [(r11.fld 0), (r8.fld 0)]).bind fun r12 =>
        if (!r12.b) then
          ou 0 [(.bool true)]
        else
          if ((r11.fld 1).i != (r8.fld 1).i) then
            ou 0 [(.bool true)]
          else
            ou 0 [(.bool (!((r11.fld 2).b == (r8.fld 2).b)))]).bind fun o12 =>
      sel2 o12.1 (if (gd o12.2 0).b then
          ou 0 [(.bool false)]
        else
          (e_laws_toStringS.F [a2]).bind fun r13 =>
          (e_laws_eqStringS.F [r9, r13]).bind fun r14 =>
          if (!r14.b) then
            ou 0 [(.bool false)]
          else
            (e_laws_toProbeS.F [a3]).bind fun r15 =>
            (e_laws_eqProbeS.F [r10, r15]).bind fun r16 =>
            if (!r16.b) then
              ou 0 [(.bool false)]
            else
              (e_laws_markStringS.F [r9, (.int 1)]).bind fun r17 =>
              (e_laws_markProbeS.F [r10, (r17.fld 0)]).bind fun r18 =>
              (if (decide ((r18.fld 0).i < 0)) then
                  ou 0 [(.bool true)]
                else
                  (e_laws_eqHealth.F [(r11.fld 0), (r8.fld 0)]).bind fun r19 =>
                  if (!r19.b) then
                    ou 0 [(.bool true)]
                  else
                    if ((r11.fld 1).i != (r8.fld 1).i) then
                      ou 0 [(.bool true)]
                    else
                      ou 0 [(.bool (!((r11.fld 2).b == (r8.fld 2).b)))]).bind fun o19 =>
              sel2 o19.1 (if (gd o19.2 0).b then
                  ou 0 [(.bool false)]
                else
                  (e_laws_markHealth.F [(r11.fld 0), (.int 1)]).bind fun r20 =>
                  (e_laws_heldHealth.F [(.pair ((r11.fld 0).fld 0) (.pair ((r11.fld 0).fld 1) (.pair ((r20.fld 1).fld 2) .unit))), (.int 1)]).bind fun r21 =>
                  if (decide (r21.i < 0)) then
                    ou 0 [(.bool false)]
                  else
                    if (r21.i != (r20.fld 0).i) then
                      ou 0 [(.bool false)]
                    else
                      (e_laws_toStringS.F [a2]).bind fun r22 =>
                      (e_laws_toProbeS.F [a3]).bind fun r23 =>
                      (e_impl_PlayProbes.F [a0, a1, r22, r23]).bind fun r24 =>
                      ((e_laws_eqHealth.F [(r24.fld 0), (r8.fld 0)]).bind fun r25 =>
                        if (!r25.b) then
                          ou 0 [(.bool true)]
                        else
                          if ((r24.fld 1).i != (r8.fld 1).i) then
                            ou 0 [(.bool true)]
                          else
                            ou 0 [(.bool (!((r24.fld 2).b == (r8.fld 2).b)))]).bind fun o25 =>
                      sel2 o25.1 (if (gd o25.2 0).b then
                          ou 0 [(.bool false)]
                        else
                          (e_laws_heldHealth.F [(.pair ((r11.fld 0).fld 0) (.pair ((r11.fld 0).fld 1) (.pair ((r20.fld 1).fld 2) .unit))), (.int 1)]).bind fun r26 =>
                          if (decide (r26.i < 0)) then
                            ou 0 [(.bool false)]
                          else
                            if (r26.i != (r20.fld 0).i) then
                              ou 0 [(.bool false)]
                            else
                              ou 0 [(.bool true)]) fun _ => none) fun _ => none) fun _ => none) := by kernel_rfl
end Go.Proofs.YtbanjbafckgghaaDoor
