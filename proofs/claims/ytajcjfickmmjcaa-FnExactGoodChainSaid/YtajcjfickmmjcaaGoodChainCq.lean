/- What each function gives, told as plain code. -/
import Derived.Test.YtajcjfickmmjcaaGoodChainC
set_option linter.unusedVariables false
set_option linter.unusedSimpArgs false
namespace Go.Proofs.Ytajcjfickmmjcaa
open Go Go.Own
/-- loop.example/g00300/spec.l1In -/
theorem q49 (a0 a1 a2 : D) : e49.F [a0, a1, a2] = rn (
  (if (decide (a0.i ≥ a1.i)) then
      ou 0 [(.bool (decide (a0.i ≤ a2.i)))]
    else
      ou 0 [(.bool false)]).bind fun o3 =>
  sel2 o3.1 (ou 0 [(gd o3.2 0)]) fun _ => none) := by kernel_rfl
/-- loop.example/g00300/impl.within -/
theorem q50 (a0 a1 a2 : D) : e50.F [a0, a1, a2] = rn (
  (if (decide (a0.i ≥ a1.i)) then
      ou 0 [(.bool (decide (a0.i ≤ a2.i)))]
    else
      ou 0 [(.bool false)]).bind fun o3 =>
  sel2 o3.1 (ou 0 [(gd o3.2 0)]) fun _ => none) := by kernel_rfl
/-- loop.example/g00300/laws.eqStringS -/
theorem q23 (a0 a1 : D) : e23.F [a0, a1] = rn (
  if ((a0.l.length : Int) != (a1.l.length : Int)) then
    ou 0 [(.bool false)]
  else
    (loopF (fun l2 =>
        if (decide ((gd l2 0).i < (a0.l.length : Int))) then
          if (inb (gd l2 0).i a0.l.length) then
          if (inb (gd l2 0).i a1.l.length) then
          if (!((gd a0.l (gd l2 0).i.toNat).s == (gd a1.l (gd l2 0).i.toNat).s)) then
            ou 1 []
          else
            ou 0 [(.int (IntKind.wrap .i64 ((gd l2 0).i + 1)))]
          else none
          else none
        else
          ou 2 []) [(.int 0)]).bind fun o2 =>
    sel2 o2.1 (ou 0 [(.bool false)]) fun n4 =>
    sel2 n4 (ou 0 [(.bool true)]) fun _ => none) := by kernel_rfl
/-- loop.example/g00300/laws.eqLink -/
theorem q72 (a0 a1 : D) : e72.F [a0, a1] = rn (
  (e23.F [(a0.fld 0), (a1.fld 0)]).bind fun r2 =>
  if (!r2.b) then
    ou 0 [(.bool false)]
  else
    if ((a0.fld 1).i != (a1.fld 1).i) then
      ou 0 [(.bool false)]
    else
      if ((a0.fld 2).i != (a1.fld 2).i) then
        ou 0 [(.bool false)]
      else
        ou 0 [(.bool true)]) := by kernel_rfl
/-- loop.example/g00300/laws.eqLinkS -/
theorem q51 (a0 a1 : D) : e51.F [a0, a1] = rn (
  if ((a0.l.length : Int) != (a1.l.length : Int)) then
    ou 0 [(.bool false)]
  else
    (loopF (fun l2 =>
        if (decide ((gd l2 0).i < (a0.l.length : Int))) then
          if (inb (gd l2 0).i a0.l.length) then
          if (inb (gd l2 0).i a1.l.length) then
          (e72.F [(gd a0.l (gd l2 0).i.toNat), (gd a1.l (gd l2 0).i.toNat)]).bind fun r3 =>
          if (!r3.b) then
            ou 1 []
          else
            ou 0 [(.int (IntKind.wrap .i64 ((gd l2 0).i + 1)))]
          else none
          else none
        else
          ou 2 []) [(.int 0)]).bind fun o2 =>
    sel2 o2.1 (ou 0 [(.bool false)]) fun n4 =>
    sel2 n4 (ou 0 [(.bool true)]) fun _ => none) := by kernel_rfl
/-- loop.example/g00300/laws.eqChain -/
theorem q14 (a0 a1 : D) : e14.F [a0, a1] = rn (
  (e51.F [(a0.fld 0), (a1.fld 0)]).bind fun r2 =>
  if (!r2.b) then
    ou 0 [(.bool false)]
  else
    ou 0 [(.bool true)]) := by kernel_rfl
/-- loop.example/g00300/laws.szStringS -/
theorem q84 (a0 a1 : D) : e84.F [a0, a1] = rn (
  if (decide ((IntKind.wrap .i64 (a1.i - (a0.l.length : Int))) < 0)) then
    ou 0 [(.int (-1))]
  else
    (loopF (fun l2 =>
        if (decide ((gd l2 1).i < (a0.l.length : Int))) then
          if (inb (gd l2 1).i a0.l.length) then
          if (decide ((IntKind.wrap .i64 ((gd l2 0).i - ((gd a0.l (gd l2 1).i.toNat).s.length : Int))) < 0)) then
            ou 1 [(.int (-1))]
          else
            ou 0 [(.int (IntKind.wrap .i64 ((gd l2 0).i - ((gd a0.l (gd l2 1).i.toNat).s.length : Int)))), (.int (IntKind.wrap .i64 ((gd l2 1).i + 1)))]
          else none
        else
          ou 2 [(gd l2 0)]) [(.int (IntKind.wrap .i64 (a1.i - (a0.l.length : Int)))), (.int 0)]).bind fun o2 =>
    sel2 o2.1 (ou 0 [(gd o2.2 0)]) fun n4 =>
    sel2 n4 (ou 0 [(gd o2.2 0)]) fun _ => none) := by kernel_rfl
/-- loop.example/g00300/laws.szLink -/
theorem q73 (a0 a1 : D) : e73.F [a0, a1] = rn (
  (e84.F [(a0.fld 0), a1]).bind fun r2 =>
  if (decide (r2.i < 0)) then
    ou 0 [(.int (-1))]
  else
    ou 0 [r2]) := by kernel_rfl
/-- loop.example/g00300/laws.szLinkS -/
theorem q54 (a0 a1 : D) : e54.F [a0, a1] = rn (
  if (decide ((IntKind.wrap .i64 (a1.i - (a0.l.length : Int))) < 0)) then
    ou 0 [(.int (-1))]
  else
    (loopF (fun l2 =>
        if (decide ((gd l2 1).i < (a0.l.length : Int))) then
          if (inb (gd l2 1).i a0.l.length) then
          (e73.F [(gd a0.l (gd l2 1).i.toNat), (gd l2 0)]).bind fun r4 =>
          if (decide (r4.i < 0)) then
            ou 1 [(.int (-1))]
          else
            ou 0 [r4, (.int (IntKind.wrap .i64 ((gd l2 1).i + 1)))]
          else none
        else
          ou 2 [(gd l2 0)]) [(.int (IntKind.wrap .i64 (a1.i - (a0.l.length : Int)))), (.int 0)]).bind fun o2 =>
    sel2 o2.1 (ou 0 [(gd o2.2 0)]) fun n4 =>
    sel2 n4 (ou 0 [(gd o2.2 0)]) fun _ => none) := by kernel_rfl
/-- loop.example/g00300/laws.szChain -/
theorem q17 (a0 a1 : D) : e17.F [a0, a1] = rn (
  (e54.F [(a0.fld 0), a1]).bind fun r2 =>
  if (decide (r2.i < 0)) then
    ou 0 [(.int (-1))]
  else
    ou 0 [r2]) := by kernel_rfl
/-- loop.example/g00300/laws.toStringS -/
theorem q85 (a0 : D) : e85.F [a0] = rn (
  if (makeOk 16 (a0.l.length : Int)) then
  (loopF (fun l1 =>
      if (decide ((gd l1 1).i < (a0.l.length : Int))) then
        if (inb (gd l1 1).i a0.l.length) then
        if (inb (gd l1 1).i (gd l1 0).l.length) then
        ou 0 [(D.lst ((gd l1 0).l.set (gd l1 1).i.toNat (gd a0.l (gd l1 1).i.toNat))), (.int (IntKind.wrap .i64 ((gd l1 1).i + 1)))]
        else none
        else none
      else
        ou 1 [(gd l1 0)]) [(D.lst (List.replicate (a0.l.length : Int).toNat (.str []))), (.int 0)]).bind fun o1 =>
  sel2 o1.1 (ou 0 [(gd o1.2 0)]) fun _ => none
  else none) := by kernel_rfl
/-- loop.example/g00300/laws.toLink -/
theorem q74 (a0 : D) : e74.F [a0] = rn (
  (e85.F [(a0.fld 0)]).bind fun r1 =>
  ou 0 [(.pair r1 (.pair (a0.fld 1) (.pair (a0.fld 2) .unit)))]) := by kernel_rfl
/-- loop.example/g00300/laws.toLinkS -/
theorem q56 (a0 : D) : e56.F [a0] = rn (
  if (makeOk 40 (a0.l.length : Int)) then
  (loopF (fun l1 =>
      if (decide ((gd l1 1).i < (a0.l.length : Int))) then
        if (inb (gd l1 1).i a0.l.length) then
        (e74.F [(gd a0.l (gd l1 1).i.toNat)]).bind fun r3 =>
        if (inb (gd l1 1).i (gd l1 0).l.length) then
        ou 0 [(D.lst ((gd l1 0).l.set (gd l1 1).i.toNat r3)), (.int (IntKind.wrap .i64 ((gd l1 1).i + 1)))]
        else none
        else none
      else
        ou 1 [(gd l1 0)]) [(D.lst (List.replicate (a0.l.length : Int).toNat (.pair (D.lst []) (.pair (.int 0) (.pair (.int 0) .unit))))), (.int 0)]).bind fun o1 =>
  sel2 o1.1 (ou 0 [(gd o1.2 0)]) fun _ => none
  else none) := by kernel_rfl
/-- loop.example/g00300/laws.toChain -/
theorem q19 (a0 : D) : e19.F [a0] = rn (
  (e56.F [(a0.fld 0)]).bind fun r1 =>
  ou 0 [(.pair r1 .unit)]) := by kernel_rfl
/-- loop.example/g00300/spec.l15Begins -/
theorem q55 (a0 a1 : D) : e55.F [a0, a1] = rn (
  (loopF (fun l2 =>
      if (decide ((gd l2 0).i < (a0.l.length : Int))) then
        (if (decide ((gd l2 0).i ≥ (a1.l.length : Int))) then
            ou 0 [(.bool true)]
          else
            if (inb (gd l2 0).i a0.l.length) then
            if (inb (gd l2 0).i a1.l.length) then
            ou 0 [(.bool (!((gd a0.l (gd l2 0).i.toNat).s == (gd a1.l (gd l2 0).i.toNat).s)))]
            else none
            else none).bind fun o3 =>
        sel2 o3.1 (if (gd o3.2 0).b then
            ou 1 []
          else
            ou 0 [(.int (IntKind.wrap .i64 ((gd l2 0).i + 1)))]) fun _ => none
      else
        ou 2 []) [(.int 0)]).bind fun o2 =>
  sel2 o2.1 (ou 0 [(.bool false)]) fun n2 =>
  sel2 n2 (ou 0 [(.bool true)]) fun _ => none) := by kernel_rfl
/-- loop.example/g00300/spec.GoodChain -/
theorem q18 (a0 : D) : e18.F [a0] = rn (
  (e49.F [(.int ((a0.fld 0).l.length : Int)), (.int 1), (.int 6)]).bind fun r1 =>
  if (!r1.b) then
    ou 0 [(.bool false)]
  else
    if (inb (IntKind.wrap .i64 (((a0.fld 0).l.length : Int) - 1)) (a0.fld 0).l.length) then
    (loopF (fun l2 =>
        if (decide ((gd l2 0).i < ((a0.fld 0).l.length : Int))) then
          (if (inb (gd l2 0).i (a0.fld 0).l.length) then
            (loopF (fun l3 =>
                if (decide ((gd l3 0).i < (((gd (a0.fld 0).l (gd l2 0).i.toNat).fld 0).l.length : Int))) then
                  if (inb (gd l3 0).i ((gd (a0.fld 0).l (gd l2 0).i.toNat).fld 0).l.length) then
                  if (decide (((gd ((gd (a0.fld 0).l (gd l2 0).i.toNat).fld 0).l (gd l3 0).i.toNat).s.length : Int) > 20)) then
                    ou 1 [(.bool false)]
                  else
                    ou 0 [(.int (IntKind.wrap .i64 ((gd l3 0).i + 1)))]
                  else none
                else
                  ou 2 []) [(.int 0)]).bind fun o3 =>
            sel2 o3.1 (ou 1 [(gd o3.2 0)]) fun n12 =>
            sel2 n12 ((if (decide ((((gd (a0.fld 0).l (gd l2 0).i.toNat).fld 0).l.length : Int) > 40)) then
                  ou 0 [(.bool true)]
                else
                  if (decide ((gd l2 0).i > 0)) then
                    if (inb (IntKind.wrap .i64 ((gd l2 0).i - 1)) (a0.fld 0).l.length) then
                    (e55.F [((gd (a0.fld 0).l (gd l2 0).i.toNat).fld 0), ((gd (a0.fld 0).l (IntKind.wrap .i64 ((gd l2 0).i - 1)).toNat).fld 0)]).bind fun r3 =>
                    ou 0 [(.bool (!r3.b))]
                    else none
                  else
                    ou 0 [(.bool false)]).bind fun o3 =>
              sel2 o3.1 (if (gd o3.2 0).b then
                  ou 1 [(.bool false)]
                else
                  if ((gd l2 0).i == (IntKind.wrap .i64 (((a0.fld 0).l.length : Int) - 1))) then
                    (if (((gd (a0.fld 0).l (gd l2 0).i.toNat).fld 1).i != 0) then
                        ou 0 [(.bool true)]
                      else
                        ou 0 [(.bool (((gd (a0.fld 0).l (gd l2 0).i.toNat).fld 2).i != (((gd (a0.fld 0).l (gd l2 0).i.toNat).fld 0).l.length : Int)))]).bind fun o4 =>
                    sel2 o4.1 (if (gd o4.2 0).b then
                        ou 1 [(.bool false)]
                      else
                        ou 0 []) fun _ => none
                  else
                    (if (inb (IntKind.wrap .i64 ((gd l2 0).i + 1)) (a0.fld 0).l.length) then
                      (e49.F [((gd (a0.fld 0).l (gd l2 0).i.toNat).fld 1), (.int 0), (.int (((gd (a0.fld 0).l (IntKind.wrap .i64 ((gd l2 0).i + 1)).toNat).fld 0).l.length : Int))]).bind fun r4 =>
                      if (!r4.b) then
                        ou 0 [(.bool true)]
                      else
                        (e49.F [((gd (a0.fld 0).l (gd l2 0).i.toNat).fld 2), (.int 0), (.int (((gd (a0.fld 0).l (IntKind.wrap .i64 (((a0.fld 0).l.length : Int) - 1)).toNat).fld 0).l.length : Int))]).bind fun r5 =>
                        if (!r5.b) then
                          ou 0 [(.bool true)]
                        else
                          ou 0 [(.bool (decide (((gd (a0.fld 0).l (gd l2 0).i.toNat).fld 2).i > ((gd (a0.fld 0).l (IntKind.wrap .i64 ((gd l2 0).i + 1)).toNat).fld 2).i)))]
                      else none).bind fun o4 =>
                    sel2 o4.1 (if (gd o4.2 0).b then
                        ou 1 [(.bool false)]
                      else
                        ou 0 []) fun _ => none) fun _ => none) fun _ => none
            else none).bind fun o3 =>
          sel2 o3.1 (ou 0 [(.int (IntKind.wrap .i64 ((gd l2 0).i + 1)))]) fun n10 =>
          sel2 n10 (ou 1 [(gd o3.2 0)]) fun _ => none
        else
          ou 2 []) [(.int 0)]).bind fun o2 =>
    sel2 o2.1 (ou 0 [(gd o2.2 0)]) fun n4 =>
    sel2 n4 (ou 0 [(.bool true)]) fun _ => none
    else none) := by kernel_rfl
/-- loop.example/g00300/impl.isLink$1 -/
theorem q76 (a0 : D) : e76.F [a0] = rn (
  ou 0 [(.bool (decide ((a0.s.length : Int) > 20)))]) := by kernel_rfl
/-- slices.IndexFunc[[]string,string] -/
theorem q86 (a0 a1 : D) : e86.F [a0, a1] = rn (
  (loopF (fun l2 =>
      if (decide ((gd l2 0).i < (a0.l.length : Int))) then
        if (inb (gd l2 0).i a0.l.length) then
        (e76.F [(gd a0.l (gd l2 0).i.toNat)]).bind fun r3 =>
        if r3.b then
          ou 1 [(gd l2 0)]
        else
          ou 0 [(.int (IntKind.wrap .i64 ((gd l2 0).i + 1)))]
        else none
      else
        ou 2 []) [(.int 0)]).bind fun o2 =>
  sel2 o2.1 (ou 0 [(gd o2.2 0)]) fun n2 =>
  sel2 n2 (ou 0 [(.int (-1))]) fun _ => none) := by kernel_rfl
/-- slices.ContainsFunc[[]string,string] -/
theorem q75 (a0 a1 : D) : e75.F [a0, a1] = rn (
  (e86.F [a0, a1]).bind fun r2 =>
  ou 0 [(.bool (decide (r2.i ≥ 0)))]) := by kernel_rfl
/-- slices.Equal[[]string,string] -/
theorem q87 (a0 a1 : D) : e87.F [a0, a1] = rn (
  if ((a0.l.length : Int) != (a1.l.length : Int)) then
    ou 0 [(.bool false)]
  else
    (loopF (fun l2 =>
        if (decide ((gd l2 0).i < (a0.l.length : Int))) then
          if (inb (gd l2 0).i a0.l.length) then
          if (inb (gd l2 0).i a1.l.length) then
          if (!((gd a0.l (gd l2 0).i.toNat).s == (gd a1.l (gd l2 0).i.toNat).s)) then
            ou 1 []
          else
            ou 0 [(.int (IntKind.wrap .i64 ((gd l2 0).i + 1)))]
          else none
          else none
        else
          ou 2 []) [(.int 0)]).bind fun o2 =>
    sel2 o2.1 (ou 0 [(.bool false)]) fun n4 =>
    sel2 n4 (ou 0 [(.bool true)]) fun _ => none) := by kernel_rfl
/-- loop.example/g00300/impl.isBeginning -/
theorem q77 (a0 a1 : D) : e77.F [a0, a1] = rn (
  (if (decide ((a0.l.length : Int) ≤ (a1.l.length : Int))) then
      if (slOk 0 (a0.l.length : Int) (a1.l.length : Int)) then
      (e87.F [a0, (D.lst ((a1.l.take (a0.l.length : Int).toNat).drop 0))]).bind fun r2 =>
      ou 0 [r2]
      else none
    else
      ou 0 [(.bool false)]).bind fun o2 =>
  sel2 o2.1 (ou 0 [(gd o2.2 0)]) fun _ => none) := by kernel_rfl
/-- loop.example/g00300/impl.isLink -/
theorem q57 (a0 a1 : D) : e57.F [a0, a1] = rn (
  if (inb a1.i (a0.fld 0).l.length) then
  (if (decide ((((gd (a0.fld 0).l a1.i.toNat).fld 0).l.length : Int) > 40)) then
      ou 0 [(.bool true)]
    else
      (e75.F [((gd (a0.fld 0).l a1.i.toNat).fld 0), .unit]).bind fun r2 =>
      ou 0 [r2]).bind fun o2 =>
  sel2 o2.1 (if (gd o2.2 0).b then
      ou 0 [(.bool false)]
    else
      if (a1.i == (IntKind.wrap .i64 (((a0.fld 0).l.length : Int) - 1))) then
        (if (((gd (a0.fld 0).l a1.i.toNat).fld 1).i == 0) then
            ou 0 [(.bool (((gd (a0.fld 0).l a1.i.toNat).fld 2).i == (((gd (a0.fld 0).l a1.i.toNat).fld 0).l.length : Int)))]
          else
            ou 0 [(.bool false)]).bind fun o3 =>
        sel2 o3.1 (ou 0 [(gd o3.2 0)]) fun _ => none
      else
        if (inb (IntKind.wrap .i64 (a1.i + 1)) (a0.fld 0).l.length) then
        ((e77.F [((gd (a0.fld 0).l (IntKind.wrap .i64 (a1.i + 1)).toNat).fld 0), ((gd (a0.fld 0).l a1.i.toNat).fld 0)]).bind fun r3 =>
          if r3.b then
            (e50.F [((gd (a0.fld 0).l a1.i.toNat).fld 1), (.int 0), (.int (((gd (a0.fld 0).l (IntKind.wrap .i64 (a1.i + 1)).toNat).fld 0).l.length : Int))]).bind fun r4 =>
            if r4.b then
              if (inb (IntKind.wrap .i64 (((a0.fld 0).l.length : Int) - 1)) (a0.fld 0).l.length) then
              (e50.F [((gd (a0.fld 0).l a1.i.toNat).fld 2), (.int 0), (.int (lesser (lesser (((gd (a0.fld 0).l (IntKind.wrap .i64 (((a0.fld 0).l.length : Int) - 1)).toNat).fld 0).l.length : Int) (((gd (a0.fld 0).l a1.i.toNat).fld 0).l.length : Int)) ((gd (a0.fld 0).l (IntKind.wrap .i64 (a1.i + 1)).toNat).fld 2).i))]).bind fun r5 =>
              ou 0 [r5]
              else none
            else
              ou 0 [(.bool false)]
          else
            ou 0 [(.bool false)]).bind fun o3 =>
        sel2 o3.1 (ou 0 [(gd o3.2 0)]) fun _ => none
        else none) fun _ => none
  else none) := by kernel_rfl
/-- loop.example/g00300/impl.GoodChain -/
theorem q20 (a0 : D) : e20.F [a0] = rn (
  (e50.F [(.int ((a0.fld 0).l.length : Int)), (.int 1), (.int 6)]).bind fun r1 =>
  if (!r1.b) then
    ou 0 [(.bool false)]
  else
    (loopF (fun l2 =>
        if (decide ((gd l2 0).i < ((a0.fld 0).l.length : Int))) then
          (e57.F [a0, (gd l2 0)]).bind fun r3 =>
          if (!r3.b) then
            ou 1 []
          else
            ou 0 [(.int (IntKind.wrap .i64 ((gd l2 0).i + 1)))]
        else
          ou 2 []) [(.int 0)]).bind fun o2 =>
    sel2 o2.1 (ou 0 [(.bool false)]) fun n4 =>
    sel2 n4 (ou 0 [(.bool true)]) fun _ => none) := by kernel_rfl
/-- loop.example/g00300/laws.FnExactGoodChain -/
theorem q4 (a0 : D) : e4.F [a0] = rn (
  (e17.F [a0, (.int 1048576)]).bind fun r1 =>
  if (decide (r1.i < 0)) then
    ou 0 [(.bool true)]
  else
    (e19.F [a0]).bind fun r2 =>
    (e18.F [r2]).bind fun r3 =>
    (e19.F [a0]).bind fun r4 =>
    (e20.F [r4]).bind fun r5 =>
    if (!(r5.b == r3.b)) then
      ou 0 [(.bool false)]
    else
      (e19.F [a0]).bind fun r6 =>
      (e14.F [r4, r6]).bind fun r7 =>
      if (!r7.b) then
        ou 0 [(.bool false)]
      else
        ou 0 [(.bool true)]) := by kernel_rfl
end Go.Proofs.Ytajcjfickmmjcaa
