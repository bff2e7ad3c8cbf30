/- What each function gives, told as plain code. -/
import Derived.Test.YtajcjfickmmjcaaSureInC
set_option linter.unusedVariables false
set_option linter.unusedSimpArgs false
namespace Go.Proofs.Ytajcjfickmmjcaa
open Go Go.Own
/-- loop.example/g00300/spec.l1In -/
theorem q49 (a0 a1 a2 : D) : e49.F [a0, a1, a2] = rn (
  (if (decide (a0.i ≥ a1.i)) then
      ou 0 [(.bool (decide (a0.i ≤ a2.i)))]
    else
      ou 0 [(.bool false)]).bind fun o3 =>
  sel2 o3.1 (ou 0 [(gd o3.2 0)]) fun _ => none) := by kernel_rfl
/-- loop.example/g00300/impl.within -/
theorem q50 (a0 a1 a2 : D) : e50.F [a0, a1, a2] = rn (
  (if (decide (a0.i ≥ a1.i)) then
      ou 0 [(.bool (decide (a0.i ≤ a2.i)))]
    else
      ou 0 [(.bool false)]).bind fun o3 =>
  sel2 o3.1 (ou 0 [(gd o3.2 0)]) fun _ => none) := by kernel_rfl
/-- loop.example/g00300/spec.NewChain -/
theorem q12 (a0 : D) : e12.F [a0] = rn (
  (e49.F [a0, (.int 1), (.int 6)]).bind fun r1 =>
  if (!r1.b) then
    ou 0 [(.pair (.pair (D.lst []) .unit) (.pair (.bool false) .unit))]
  else
    if (makeOk 40 a0.i) then
    ou 0 [(.pair (.pair (D.lst (List.replicate a0.i.toNat (.pair (D.lst []) (.pair (.int 0) (.pair (.int 0) .unit))))) .unit) (.pair (.bool true) .unit))]
    else none) := by kernel_rfl
/-- loop.example/g00300/impl.NewChain -/
theorem q13 (a0 : D) : e13.F [a0] = rn (
  (e50.F [a0, (.int 1), (.int 6)]).bind fun r1 =>
  if (!r1.b) then
    ou 0 [(.pair (.pair (D.lst []) .unit) (.pair (.bool false) .unit))]
  else
    if (makeOk 40 a0.i) then
    ou 0 [(.pair (.pair (D.lst (List.replicate a0.i.toNat (.pair (D.lst []) (.pair (.int 0) (.pair (.int 0) .unit))))) .unit) (.pair (.bool true) .unit))]
    else none) := by kernel_rfl
/-- loop.example/g00300/laws.eqStringS -/
theorem q23 (a0 a1 : D) : e23.F [a0, a1] = rn (
  if ((a0.l.length : Int) != (a1.l.length : Int)) then
    ou 0 [(.bool false)]
  else
    (loopF (fun l2 =>
        if (decide ((gd l2 0).i < (a0.l.length : Int))) then
          if (inb (gd l2 0).i a0.l.length) then
          if (inb (gd l2 0).i a1.l.length) then
          if (!((gd a0.l (gd l2 0).i.toNat).s == (gd a1.l (gd l2 0).i.toNat).s)) then
            ou 1 []
          else
            ou 0 [(.int (IntKind.wrap .i64 ((gd l2 0).i + 1)))]
          else none
          else none
        else
          ou 2 []) [(.int 0)]).bind fun o2 =>
    sel2 o2.1 (ou 0 [(.bool false)]) fun n4 =>
    sel2 n4 (ou 0 [(.bool true)]) fun _ => none) := by kernel_rfl
/-- loop.example/g00300/laws.eqLink -/
theorem q72 (a0 a1 : D) : e72.F [a0, a1] = rn (
  (e23.F [(a0.fld 0), (a1.fld 0)]).bind fun r2 =>
  if (!r2.b) then
    ou 0 [(.bool false)]
  else
    if ((a0.fld 1).i != (a1.fld 1).i) then
      ou 0 [(.bool false)]
    else
      if ((a0.fld 2).i != (a1.fld 2).i) then
        ou 0 [(.bool false)]
      else
        ou 0 [(.bool true)]) := by kernel_rfl
/-- loop.example/g00300/laws.eqLinkS -/
theorem q51 (a0 a1 : D) : e51.F [a0, a1] = rn (
  if ((a0.l.length : Int) != (a1.l.length : Int)) then
    ou 0 [(.bool false)]
  else
    (loopF (fun l2 =>
        if (decide ((gd l2 0).i < (a0.l.length : Int))) then
          if (inb (gd l2 0).i a0.l.length) then
          if (inb (gd l2 0).i a1.l.length) then
          (e72.F [(gd a0.l (gd l2 0).i.toNat), (gd a1.l (gd l2 0).i.toNat)]).bind fun r3 =>
          if (!r3.b) then
            ou 1 []
          else
            ou 0 [(.int (IntKind.wrap .i64 ((gd l2 0).i + 1)))]
          else none
          else none
        else
          ou 2 []) [(.int 0)]).bind fun o2 =>
    sel2 o2.1 (ou 0 [(.bool false)]) fun n4 =>
    sel2 n4 (ou 0 [(.bool true)]) fun _ => none) := by kernel_rfl
/-- loop.example/g00300/laws.eqChain -/
theorem q14 (a0 a1 : D) : e14.F [a0, a1] = rn (
  (e51.F [(a0.fld 0), (a1.fld 0)]).bind fun r2 =>
  if (!r2.b) then
    ou 0 [(.bool false)]
  else
    ou 0 [(.bool true)]) := by kernel_rfl
/-- loop.example/g00300/laws.markText -/
theorem q59 (a0 : D) : e59.F [a0] = rn (
  if (decide (a0.i ≤ 0)) then
    ou 0 [(D.str [109, 48])]
  else
    (loopF (fun l1 =>
        if (decide ((gd l1 0).i > 0)) then
          if (10 != 0) then
          if (catOk (bytesStr ((.int (IntKind.wrap .u8 (IntKind.wrap .i64 (48 + ((gd l1 0).i.tmod 10))))) :: ([] : List D))) (gd l1 1).s) then
          ou 0 [(.int (IntKind.wrap .i64 ((gd l1 0).i.tdiv 10))), (.str ((bytesStr ((.int (IntKind.wrap .u8 (IntKind.wrap .i64 (48 + ((gd l1 0).i.tmod 10))))) :: ([] : List D))) ++ (gd l1 1).s))]
          else none
          else none
        else
          ou 1 [(gd l1 1)]) [a0, (D.str [])]).bind fun o1 =>
    sel2 o1.1 (if (catOk ([109] : List UInt8) (gd o1.2 0).s) then
      ou 0 [(.str (([109] : List UInt8) ++ (gd o1.2 0).s))]
      else none) fun _ => none) := by kernel_rfl
/-- loop.example/g00300/laws.markStringS -/
theorem q24 (a0 a1 : D) : e24.F [a0, a1] = rn (
  (loopF (fun l2 =>
      if (decide ((gd l2 2).i < ((gd l2 0).l.length : Int))) then
        (e59.F [(gd l2 1)]).bind fun r5 =>
        if (inb (gd l2 2).i (gd l2 0).l.length) then
        ou 0 [(D.lst ((gd l2 0).l.set (gd l2 2).i.toNat r5)), (.int (IntKind.wrap .i64 ((gd l2 1).i + 1))), (.int (IntKind.wrap .i64 ((gd l2 2).i + 1)))]
        else none
      else
        ou 1 [(gd l2 0), (gd l2 1)]) [a0, a1, (.int 0)]).bind fun o2 =>
  sel2 o2.1 (ou 0 [(.pair (gd o2.2 1) (.pair (gd o2.2 0) .unit))]) fun _ => none) := by kernel_rfl
/-- loop.example/g00300/laws.szStringS -/
theorem q84 (a0 a1 : D) : e84.F [a0, a1] = rn (
  if (decide ((IntKind.wrap .i64 (a1.i - (a0.l.length : Int))) < 0)) then
    ou 0 [(.int (-1))]
  else
    (loopF (fun l2 =>
        if (decide ((gd l2 1).i < (a0.l.length : Int))) then
          if (inb (gd l2 1).i a0.l.length) then
          if (decide ((IntKind.wrap .i64 ((gd l2 0).i - ((gd a0.l (gd l2 1).i.toNat).s.length : Int))) < 0)) then
            ou 1 [(.int (-1))]
          else
            ou 0 [(.int (IntKind.wrap .i64 ((gd l2 0).i - ((gd a0.l (gd l2 1).i.toNat).s.length : Int)))), (.int (IntKind.wrap .i64 ((gd l2 1).i + 1)))]
          else none
        else
          ou 2 [(gd l2 0)]) [(.int (IntKind.wrap .i64 (a1.i - (a0.l.length : Int)))), (.int 0)]).bind fun o2 =>
    sel2 o2.1 (ou 0 [(gd o2.2 0)]) fun n4 =>
    sel2 n4 (ou 0 [(gd o2.2 0)]) fun _ => none) := by kernel_rfl
/-- loop.example/g00300/laws.szLink -/
theorem q73 (a0 a1 : D) : e73.F [a0, a1] = rn (
  (e84.F [(a0.fld 0), a1]).bind fun r2 =>
  if (decide (r2.i < 0)) then
    ou 0 [(.int (-1))]
  else
    ou 0 [r2]) := by kernel_rfl
/-- loop.example/g00300/laws.szLinkS -/
theorem q54 (a0 a1 : D) : e54.F [a0, a1] = rn (
  if (decide ((IntKind.wrap .i64 (a1.i - (a0.l.length : Int))) < 0)) then
    ou 0 [(.int (-1))]
  else
    (loopF (fun l2 =>
        if (decide ((gd l2 1).i < (a0.l.length : Int))) then
          if (inb (gd l2 1).i a0.l.length) then
          (e73.F [(gd a0.l (gd l2 1).i.toNat), (gd l2 0)]).bind fun r4 =>
          if (decide (r4.i < 0)) then
            ou 1 [(.int (-1))]
          else
            ou 0 [r4, (.int (IntKind.wrap .i64 ((gd l2 1).i + 1)))]
          else none
        else
          ou 2 [(gd l2 0)]) [(.int (IntKind.wrap .i64 (a1.i - (a0.l.length : Int)))), (.int 0)]).bind fun o2 =>
    sel2 o2.1 (ou 0 [(gd o2.2 0)]) fun n4 =>
    sel2 n4 (ou 0 [(gd o2.2 0)]) fun _ => none) := by kernel_rfl
/-- loop.example/g00300/laws.szChain -/
theorem q17 (a0 a1 : D) : e17.F [a0, a1] = rn (
  (e54.F [(a0.fld 0), a1]).bind fun r2 =>
  if (decide (r2.i < 0)) then
    ou 0 [(.int (-1))]
  else
    ou 0 [r2]) := by kernel_rfl
/-- loop.example/g00300/laws.toStringS -/
theorem q85 (a0 : D) : e85.F [a0] = rn (
  if (makeOk 16 (a0.l.length : Int)) then
  (loopF (fun l1 =>
      if (decide ((gd l1 1).i < (a0.l.length : Int))) then
        if (inb (gd l1 1).i a0.l.length) then
        if (inb (gd l1 1).i (gd l1 0).l.length) then
        ou 0 [(D.lst ((gd l1 0).l.set (gd l1 1).i.toNat (gd a0.l (gd l1 1).i.toNat))), (.int (IntKind.wrap .i64 ((gd l1 1).i + 1)))]
        else none
        else none
      else
        ou 1 [(gd l1 0)]) [(D.lst (List.replicate (a0.l.length : Int).toNat (.str []))), (.int 0)]).bind fun o1 =>
  sel2 o1.1 (ou 0 [(gd o1.2 0)]) fun _ => none
  else none) := by kernel_rfl
/-- loop.example/g00300/laws.toLink -/
theorem q74 (a0 : D) : e74.F [a0] = rn (
  (e85.F [(a0.fld 0)]).bind fun r1 =>
  ou 0 [(.pair r1 (.pair (a0.fld 1) (.pair (a0.fld 2) .unit)))]) := by kernel_rfl
/-- loop.example/g00300/laws.toLinkS -/
theorem q56 (a0 : D) : e56.F [a0] = rn (
  if (makeOk 40 (a0.l.length : Int)) then
  (loopF (fun l1 =>
      if (decide ((gd l1 1).i < (a0.l.length : Int))) then
        if (inb (gd l1 1).i a0.l.length) then
        (e74.F [(gd a0.l (gd l1 1).i.toNat)]).bind fun r3 =>
        if (inb (gd l1 1).i (gd l1 0).l.length) then
        ou 0 [(D.lst ((gd l1 0).l.set (gd l1 1).i.toNat r3)), (.int (IntKind.wrap .i64 ((gd l1 1).i + 1)))]
        else none
        else none
      else
        ou 1 [(gd l1 0)]) [(D.lst (List.replicate (a0.l.length : Int).toNat (.pair (D.lst []) (.pair (.int 0) (.pair (.int 0) .unit))))), (.int 0)]).bind fun o1 =>
  sel2 o1.1 (ou 0 [(gd o1.2 0)]) fun _ => none
  else none) := by kernel_rfl
/-- loop.example/g00300/laws.toChain -/
theorem q19 (a0 : D) : e19.F [a0] = rn (
  (e56.F [(a0.fld 0)]).bind fun r1 =>
  ou 0 [(.pair r1 .unit)]) := by kernel_rfl
/-- loop.example/g00300/spec.l15Begins -/
theorem q55 (a0 a1 : D) : e55.F [a0, a1] = rn (
  (loopF (fun l2 =>
      if (decide ((gd l2 0).i < (a0.l.length : Int))) then
        (if (decide ((gd l2 0).i ≥ (a1.l.length : Int))) then
            ou 0 [(.bool true)]
          else
            if (inb (gd l2 0).i a0.l.length) then
            if (inb (gd l2 0).i a1.l.length) then
            ou 0 [(.bool (!((gd a0.l (gd l2 0).i.toNat).s == (gd a1.l (gd l2 0).i.toNat).s)))]
            else none
            else none).bind fun o3 =>
        sel2 o3.1 (if (gd o3.2 0).b then
            ou 1 []
          else
            ou 0 [(.int (IntKind.wrap .i64 ((gd l2 0).i + 1)))]) fun _ => none
      else
        ou 2 []) [(.int 0)]).bind fun o2 =>
  sel2 o2.1 (ou 0 [(.bool false)]) fun n2 =>
  sel2 n2 (ou 0 [(.bool true)]) fun _ => none) := by kernel_rfl
/-- loop.example/g00300/spec.GoodChain -/
theorem q18 (a0 : D) : e18.F [a0] = rn (
  (e49.F [(.int ((a0.fld 0).l.length : Int)), (.int 1), (.int 6)]).bind fun r1 =>
  if (!r1.b) then
    ou 0 [(.bool false)]
  else
    if (inb (IntKind.wrap .i64 (((a0.fld 0).l.length : Int) - 1)) (a0.fld 0).l.length) then
    (loopF (fun l2 =>
        if (decide ((gd l2 0).i < ((a0.fld 0).l.length : Int))) then
          (if (inb (gd l2 0).i (a0.fld 0).l.length) then
            (loopF (fun l3 =>
                if (decide ((gd l3 0).i < (((gd (a0.fld 0).l (gd l2 0).i.toNat).fld 0).l.length : Int))) then
                  if (inb (gd l3 0).i ((gd (a0.fld 0).l (gd l2 0).i.toNat).fld 0).l.length) then
                  if (decide (((gd ((gd (a0.fld 0).l (gd l2 0).i.toNat).fld 0).l (gd l3 0).i.toNat).s.length : Int) > 20)) then
                    ou 1 [(.bool false)]
                  else
                    ou 0 [(.int (IntKind.wrap .i64 ((gd l3 0).i + 1)))]
                  else none
                else
                  ou 2 []) [(.int 0)]).bind fun o3 =>
            sel2 o3.1 (ou 1 [(gd o3.2 0)]) fun n12 =>
            sel2 n12 ((if (decide ((((gd (a0.fld 0).l (gd l2 0).i.toNat).fld 0).l.length : Int) > 40)) then
                  ou 0 [(.bool true)]
                else
                  if (decide ((gd l2 0).i > 0)) then
                    if (inb (IntKind.wrap .i64 ((gd l2 0).i - 1)) (a0.fld 0).l.length) then
                    (e55.F [((gd (a0.fld 0).l (gd l2 0).i.toNat).fld 0), ((gd (a0.fld 0).l (IntKind.wrap .i64 ((gd l2 0).i - 1)).toNat).fld 0)]).bind fun r3 =>
                    ou 0 [(.bool (!r3.b))]
                    else none
                  else
                    ou 0 [(.bool false)]).bind fun o3 =>
              sel2 o3.1 (if (gd o3.2 0).b then
                  ou 1 [(.bool false)]
                else
                  if ((gd l2 0).i == (IntKind.wrap .i64 (((a0.fld 0).l.length : Int) - 1))) then
                    (if (((gd (a0.fld 0).l (gd l2 0).i.toNat).fld 1).i != 0) then
                        ou 0 [(.bool true)]
                      else
                        ou 0 [(.bool (((gd (a0.fld 0).l (gd l2 0).i.toNat).fld 2).i != (((gd (a0.fld 0).l (gd l2 0).i.toNat).fld 0).l.length : Int)))]).bind fun o4 =>
                    sel2 o4.1 (if (gd o4.2 0).b then
                        ou 1 [(.bool false)]
                      else
                        ou 0 []) fun _ => none
                  else
                    (if (inb (IntKind.wrap .i64 ((gd l2 0).i + 1)) (a0.fld 0).l.length) then
                      (e49.F [((gd (a0.fld 0).l (gd l2 0).i.toNat).fld 1), (.int 0), (.int (((gd (a0.fld 0).l (IntKind.wrap .i64 ((gd l2 0).i + 1)).toNat).fld 0).l.length : Int))]).bind fun r4 =>
                      if (!r4.b) then
                        ou 0 [(.bool true)]
                      else
                        (e49.F [((gd (a0.fld 0).l (gd l2 0).i.toNat).fld 2), (.int 0), (.int (((gd (a0.fld 0).l (IntKind.wrap .i64 (((a0.fld 0).l.length : Int) - 1)).toNat).fld 0).l.length : Int))]).bind fun r5 =>
                        if (!r5.b) then
                          ou 0 [(.bool true)]
                        else
                          ou 0 [(.bool (decide (((gd (a0.fld 0).l (gd l2 0).i.toNat).fld 2).i > ((gd (a0.fld 0).l (IntKind.wrap .i64 ((gd l2 0).i + 1)).toNat).fld 2).i)))]
                      else none).bind fun o4 =>
                    sel2 o4.1 (if (gd o4.2 0).b then
                        ou 1 [(.bool false)]
                      else
                        ou 0 []) fun _ => none) fun _ => none) fun _ => none
            else none).bind fun o3 =>
          sel2 o3.1 (ou 0 [(.int (IntKind.wrap .i64 ((gd l2 0).i + 1)))]) fun n10 =>
          sel2 n10 (ou 1 [(gd o3.2 0)]) fun _ => none
        else
          ou 2 []) [(.int 0)]).bind fun o2 =>
    sel2 o2.1 (ou 0 [(gd o2.2 0)]) fun n4 =>
    sel2 n4 (ou 0 [(.bool true)]) fun _ => none
    else none) := by kernel_rfl
/-- loop.example/g00300/impl.isLink$1 -/
theorem q76 (a0 : D) : e76.F [a0] = rn (
  ou 0 [(.bool (decide ((a0.s.length : Int) > 20)))]) := by kernel_rfl
/-- slices.IndexFunc[[]string,string] -/
theorem q86 (a0 a1 : D) : e86.F [a0, a1] = rn (
  (loopF (fun l2 =>
      if (decide ((gd l2 0).i < (a0.l.length : Int))) then
        if (inb (gd l2 0).i a0.l.length) then
        (e76.F [(gd a0.l (gd l2 0).i.toNat)]).bind fun r3 =>
        if r3.b then
          ou 1 [(gd l2 0)]
        else
          ou 0 [(.int (IntKind.wrap .i64 ((gd l2 0).i + 1)))]
        else none
      else
        ou 2 []) [(.int 0)]).bind fun o2 =>
  sel2 o2.1 (ou 0 [(gd o2.2 0)]) fun n2 =>
  sel2 n2 (ou 0 [(.int (-1))]) fun _ => none) := by kernel_rfl
/-- slices.ContainsFunc[[]string,string] -/
theorem q75 (a0 a1 : D) : e75.F [a0, a1] = rn (
  (e86.F [a0, a1]).bind fun r2 =>
  ou 0 [(.bool (decide (r2.i ≥ 0)))]) := by kernel_rfl
/-- slices.Equal[[]string,string] -/
theorem q87 (a0 a1 : D) : e87.F [a0, a1] = rn (
  if ((a0.l.length : Int) != (a1.l.length : Int)) then
    ou 0 [(.bool false)]
  else
    (loopF (fun l2 =>
        if (decide ((gd l2 0).i < (a0.l.length : Int))) then
          if (inb (gd l2 0).i a0.l.length) then
          if (inb (gd l2 0).i a1.l.length) then
          if (!((gd a0.l (gd l2 0).i.toNat).s == (gd a1.l (gd l2 0).i.toNat).s)) then
            ou 1 []
          else
            ou 0 [(.int (IntKind.wrap .i64 ((gd l2 0).i + 1)))]
          else none
          else none
        else
          ou 2 []) [(.int 0)]).bind fun o2 =>
    sel2 o2.1 (ou 0 [(.bool false)]) fun n4 =>
    sel2 n4 (ou 0 [(.bool true)]) fun _ => none) := by kernel_rfl
/-- loop.example/g00300/impl.isBeginning -/
theorem q77 (a0 a1 : D) : e77.F [a0, a1] = rn (
  (if (decide ((a0.l.length : Int) ≤ (a1.l.length : Int))) then
      if (slOk 0 (a0.l.length : Int) (a1.l.length : Int)) then
      (e87.F [a0, (D.lst ((a1.l.take (a0.l.length : Int).toNat).drop 0))]).bind fun r2 =>
      ou 0 [r2]
      else none
    else
      ou 0 [(.bool false)]).bind fun o2 =>
  sel2 o2.1 (ou 0 [(gd o2.2 0)]) fun _ => none) := by kernel_rfl
/-- loop.example/g00300/impl.isLink -/
theorem q57 (a0 a1 : D) : e57.F [a0, a1] = rn (
  if (inb a1.i (a0.fld 0).l.length) then
  (if (decide ((((gd (a0.fld 0).l a1.i.toNat).fld 0).l.length : Int) > 40)) then
      ou 0 [(.bool true)]
    else
      (e75.F [((gd (a0.fld 0).l a1.i.toNat).fld 0), .unit]).bind fun r2 =>
      ou 0 [r2]).bind fun o2 =>
  sel2 o2.1 (if (gd o2.2 0).b then
      ou 0 [(.bool false)]
    else
      if (a1.i == (IntKind.wrap .i64 (((a0.fld 0).l.length : Int) - 1))) then
        (if (((gd (a0.fld 0).l a1.i.toNat).fld 1).i == 0) then
            ou 0 [(.bool (((gd (a0.fld 0).l a1.i.toNat).fld 2).i == (((gd (a0.fld 0).l a1.i.toNat).fld 0).l.length : Int)))]
          else
            ou 0 [(.bool false)]).bind fun o3 =>
        sel2 o3.1 (ou 0 [(gd o3.2 0)]) fun _ => none
      else
        if (inb (IntKind.wrap .i64 (a1.i + 1)) (a0.fld 0).l.length) then
        ((e77.F [((gd (a0.fld 0).l (IntKind.wrap .i64 (a1.i + 1)).toNat).fld 0), ((gd (a0.fld 0).l a1.i.toNat).fld 0)]).bind fun r3 =>
          if r3.b then
            (e50.F [((gd (a0.fld 0).l a1.i.toNat).fld 1), (.int 0), (.int (((gd (a0.fld 0).l (IntKind.wrap .i64 (a1.i + 1)).toNat).fld 0).l.length : Int))]).bind fun r4 =>
            if r4.b then
              if (inb (IntKind.wrap .i64 (((a0.fld 0).l.length : Int) - 1)) (a0.fld 0).l.length) then
              (e50.F [((gd (a0.fld 0).l a1.i.toNat).fld 2), (.int 0), (.int (lesser (lesser (((gd (a0.fld 0).l (IntKind.wrap .i64 (((a0.fld 0).l.length : Int) - 1)).toNat).fld 0).l.length : Int) (((gd (a0.fld 0).l a1.i.toNat).fld 0).l.length : Int)) ((gd (a0.fld 0).l (IntKind.wrap .i64 (a1.i + 1)).toNat).fld 2).i))]).bind fun r5 =>
              ou 0 [r5]
              else none
            else
              ou 0 [(.bool false)]
          else
            ou 0 [(.bool false)]).bind fun o3 =>
        sel2 o3.1 (ou 0 [(gd o3.2 0)]) fun _ => none
        else none) fun _ => none
  else none) := by kernel_rfl
/-- loop.example/g00300/impl.GoodChain -/
theorem q20 (a0 : D) : e20.F [a0] = rn (
  (e50.F [(.int ((a0.fld 0).l.length : Int)), (.int 1), (.int 6)]).bind fun r1 =>
  if (!r1.b) then
    ou 0 [(.bool false)]
  else
    (loopF (fun l2 =>
        if (decide ((gd l2 0).i < ((a0.fld 0).l.length : Int))) then
          (e57.F [a0, (gd l2 0)]).bind fun r3 =>
          if (!r3.b) then
            ou 1 []
          else
            ou 0 [(.int (IntKind.wrap .i64 ((gd l2 0).i + 1)))]
        else
          ou 2 []) [(.int 0)]).bind fun o2 =>
    sel2 o2.1 (ou 0 [(.bool false)]) fun n4 =>
    sel2 n4 (ou 0 [(.bool true)]) fun _ => none) := by kernel_rfl
/-- loop.example/g00300/laws.FnExactGoodChain -/
theorem q4 (a0 : D) : e4.F [a0] = rn (
  (e17.F [a0, (.int 1048576)]).bind fun r1 =>
  if (decide (r1.i < 0)) then
    ou 0 [(.bool true)]
  else
    (e19.F [a0]).bind fun r2 =>
    (e18.F [r2]).bind fun r3 =>
    (e19.F [a0]).bind fun r4 =>
    (e20.F [r4]).bind fun r5 =>
    if (!(r5.b == r3.b)) then
      ou 0 [(.bool false)]
    else
      (e19.F [a0]).bind fun r6 =>
      (e14.F [r4, r6]).bind fun r7 =>
      if (!r7.b) then
        ou 0 [(.bool false)]
      else
        ou 0 [(.bool true)]) := by kernel_rfl
/-- loop.example/g00300/spec.ReadTail -/
theorem q21 (a0 : D) : e21.F [a0] = rn (
  (e18.F [a0]).bind fun r1 =>
  if (!r1.b) then
    ou 0 [(.pair (D.lst []) (.pair (.bool false) .unit))]
  else
    if (inb (IntKind.wrap .i64 (((a0.fld 0).l.length : Int) - 1)) (a0.fld 0).l.length) then
    if (appOk 16 ([] : List D) ((gd (a0.fld 0).l (IntKind.wrap .i64 (((a0.fld 0).l.length : Int) - 1)).toNat).fld 0).l) then
    ou 0 [(.pair (D.lst (([] : List D) ++ ((gd (a0.fld 0).l (IntKind.wrap .i64 (((a0.fld 0).l.length : Int) - 1)).toNat).fld 0).l)) (.pair (.bool true) .unit))]
    else none
    else none) := by kernel_rfl
/-- slices.Clone[[]string,string] -/
theorem q58 (a0 : D) : e58.F [a0] = rn (
  two a0.l.isEmpty
    (ou 0 [(D.lst [])])
    (if (appOk 16 ([] : List D) a0.l) then
    ou 0 [(D.lst (([] : List D) ++ a0.l))]
    else none)) := by kernel_rfl
/-- loop.example/g00300/impl.ReadTail -/
theorem q22 (a0 : D) : e22.F [a0] = rn (
  (e20.F [a0]).bind fun r1 =>
  if (!r1.b) then
    ou 0 [(.pair (D.lst []) (.pair (.bool false) .unit))]
  else
    if (inb (IntKind.wrap .i64 (((a0.fld 0).l.length : Int) - 1)) (a0.fld 0).l.length) then
    (e58.F [((gd (a0.fld 0).l (IntKind.wrap .i64 (((a0.fld 0).l.length : Int) - 1)).toNat).fld 0)]).bind fun r2 =>
    ou 0 [(.pair r2 (.pair (.bool true) .unit))]
    else none) := by kernel_rfl
/-- loop.example/g00300/laws.markLinkS -/
theorem q52 (a0 a1 : D) : e52.F [a0, a1] = rn (
  (loopF (fun l2 =>
      if (decide ((gd l2 2).i < ((gd l2 0).l.length : Int))) then
        if (inb (gd l2 2).i (gd l2 0).l.length) then
        (e24.F [((gd (gd l2 0).l (gd l2 2).i.toNat).fld 0), (gd l2 1)]).bind fun r5 =>
        ou 0 [(D.lst ((((gd l2 0).l.set (gd l2 2).i.toNat ((gd (gd l2 0).l (gd l2 2).i.toNat).setFld 0 (r5.fld 1))).set (gd l2 2).i.toNat ((gd (D.lst ((gd l2 0).l.set (gd l2 2).i.toNat ((gd (gd l2 0).l (gd l2 2).i.toNat).setFld 0 (r5.fld 1)))).l (gd l2 2).i.toNat).setFld 1 (r5.fld 0))).set (gd l2 2).i.toNat ((gd (D.lst (((gd l2 0).l.set (gd l2 2).i.toNat ((gd (gd l2 0).l (gd l2 2).i.toNat).setFld 0 (r5.fld 1))).set (gd l2 2).i.toNat ((gd (D.lst ((gd l2 0).l.set (gd l2 2).i.toNat ((gd (gd l2 0).l (gd l2 2).i.toNat).setFld 0 (r5.fld 1)))).l (gd l2 2).i.toNat).setFld 1 (r5.fld 0)))).l (gd l2 2).i.toNat).setFld 2 (.int (IntKind.wrap .i64 ((r5.fld 0).i + 1)))))), (.int (IntKind.wrap .i64 ((IntKind.wrap .i64 ((r5.fld 0).i + 1)) + 1))), (.int (IntKind.wrap .i64 ((gd l2 2).i + 1)))]
        else none
      else
        ou 1 [(gd l2 0), (gd l2 1)]) [a0, a1, (.int 0)]).bind fun o2 =>
  sel2 o2.1 (ou 0 [(.pair (gd o2.2 1) (.pair (gd o2.2 0) .unit))]) fun _ => none) := by kernel_rfl
/-- loop.example/g00300/laws.markChain -/
theorem q15 (a0 a1 : D) : e15.F [a0, a1] = rn (
  (e52.F [(a0.fld 0), a1]).bind fun r2 =>
  ou 0 [(.pair (r2.fld 0) (.pair (D.mix (.pair (.lst true (.pair (.lst true .str) (.pair (.int .i64) (.pair (.int .i64) .unit)))) .unit) a0 (a0.setFld 0 (r2.fld 1))) .unit))]) := by kernel_rfl
/-- loop.example/g00300/laws.heldStringS -/
theorem q25 (a0 a1 : D) : e25.F [a0, a1] = rn (
  (loopF (fun l2 =>
      if (decide ((gd l2 1).i < (a0.l.length : Int))) then
        if (inb (gd l2 1).i a0.l.length) then
        (e59.F [(gd l2 0)]).bind fun r4 =>
        if (!((gd a0.l (gd l2 1).i.toNat).s == r4.s)) then
          ou 1 [(.int (-1))]
        else
          ou 0 [(.int (IntKind.wrap .i64 ((gd l2 0).i + 1))), (.int (IntKind.wrap .i64 ((gd l2 1).i + 1)))]
        else none
      else
        ou 2 [(gd l2 0)]) [a1, (.int 0)]).bind fun o2 =>
  sel2 o2.1 (ou 0 [(gd o2.2 0)]) fun n2 =>
  sel2 n2 (ou 0 [(gd o2.2 0)]) fun _ => none) := by kernel_rfl
/-- loop.example/g00300/laws.FnExactReadTail -/
theorem q5 (a0 : D) : e5.F [a0] = rn (
  (e17.F [a0, (.int 1048576)]).bind fun r1 =>
  if (decide (r1.i < 0)) then
    ou 0 [(.bool true)]
  else
    (e19.F [a0]).bind fun r2 =>
    (e21.F [r2]).bind fun r3 =>
    (e19.F [a0]).bind fun r4 =>
    (e22.F [r4]).bind fun r5 =>
    ((e23.F [(r5.fld 0), (r3.fld 0)]).bind fun r6 =>
      if (!r6.b) then
        ou 0 [(.bool true)]
      else
        ou 0 [(.bool (!((r5.fld 1).b == (r3.fld 1).b)))]).bind fun o6 =>
    sel2 o6.1 (if (gd o6.2 0).b then
        ou 0 [(.bool false)]
      else
        (e19.F [a0]).bind fun r7 =>
        (e14.F [r4, r7]).bind fun r8 =>
        if (!r8.b) then
          ou 0 [(.bool false)]
        else
          (e15.F [r4, (.int 1)]).bind fun r9 =>
          (if (decide ((r9.fld 0).i < 0)) then
              ou 0 [(.bool true)]
            else
              (e23.F [(r5.fld 0), (r3.fld 0)]).bind fun r10 =>
              if (!r10.b) then
                ou 0 [(.bool true)]
              else
                ou 0 [(.bool (!((r5.fld 1).b == (r3.fld 1).b)))]).bind fun o10 =>
          sel2 o10.1 (if (gd o10.2 0).b then
              ou 0 [(.bool false)]
            else
              (e24.F [(r5.fld 0), (.int 1)]).bind fun r11 =>
              (e25.F [(r11.fld 1), (.int 1)]).bind fun r12 =>
              if (decide (r12.i < 0)) then
                ou 0 [(.bool false)]
              else
                if (r12.i != (r11.fld 0).i) then
                  ou 0 [(.bool false)]
                else
                  (e19.F [a0]).bind fun r13 =>
                  (e22.F [r13]).bind fun r14 =>
                  ((e23.F [(r14.fld 0), (r3.fld 0)]).bind fun r15 =>
                    if (!r15.b) then
                      ou 0 [(.bool true)]
                    else
                      ou 0 [(.bool (!((r14.fld 1).b == (r3.fld 1).b)))]).bind fun o15 =>
                  sel2 o15.1 (if (gd o15.2 0).b then
                      ou 0 [(.bool false)]
                    else
                      (e25.F [(r11.fld 1), (.int 1)]).bind fun r16 =>
                      if (decide (r16.i < 0)) then
                        ou 0 [(.bool false)]
                      else
                        if (r16.i != (r11.fld 0).i) then
                          ou 0 [(.bool false)]
                        else
                          ou 0 [(.bool true)]) fun _ => none) fun _ => none) fun _ => none) := by kernel_rfl
/-- loop.example/g00300/spec.SureIn -/
theorem q26 (a0 : D) : e26.F [a0] = rn (
  (e18.F [a0]).bind fun r1 =>
  if (!r1.b) then
    ou 0 [(.pair (D.lst []) (.pair (.bool false) .unit))]
  else
    if (inb 0 (a0.fld 0).l.length) then
    if (slOk 0 ((gd (a0.fld 0).l 0).fld 2).i (((gd (a0.fld 0).l 0).fld 0).l.length : Int)) then
    if (appOk 16 ([] : List D) ((((gd (a0.fld 0).l 0).fld 0).l.take ((gd (a0.fld 0).l 0).fld 2).i.toNat).drop 0)) then
    ou 0 [(.pair (D.lst (([] : List D) ++ ((((gd (a0.fld 0).l 0).fld 0).l.take ((gd (a0.fld 0).l 0).fld 2).i.toNat).drop 0))) (.pair (.bool true) .unit))]
    else none
    else none
    else none) := by kernel_rfl
/-- loop.example/g00300/impl.SureIn -/
theorem q27 (a0 : D) : e27.F [a0] = rn (
  (e20.F [a0]).bind fun r1 =>
  if (!r1.b) then
    ou 0 [(.pair (D.lst []) (.pair (.bool false) .unit))]
  else
    if (inb 0 (a0.fld 0).l.length) then
    if (slOk 0 ((gd (a0.fld 0).l 0).fld 2).i (((gd (a0.fld 0).l 0).fld 0).l.length : Int)) then
    (e58.F [(D.lst ((((gd (a0.fld 0).l 0).fld 0).l.take ((gd (a0.fld 0).l 0).fld 2).i.toNat).drop 0))]).bind fun r2 =>
    ou 0 [(.pair r2 (.pair (.bool true) .unit))]
    else none
    else none) := by kernel_rfl
/-- loop.example/g00300/laws.FnExactSureIn -/
theorem q6 (a0 : D) : e6.F [a0] = rn (
  (e17.F [a0, (.int 1048576)]).bind fun r1 =>
  if (decide (r1.i < 0)) then
    ou 0 [(.bool true)]
  else
    (e19.F [a0]).bind fun r2 =>
    (e26.F [r2]).bind fun r3 =>
    (e19.F [a0]).bind fun r4 =>
    (e27.F [r4]).bind fun r5 =>
    ((e23.F [(r5.fld 0), (r3.fld 0)]).bind fun r6 =>
      if (!r6.b) then
        ou 0 [(.bool true)]
      else
        ou 0 [(.bool (!((r5.fld 1).b == (r3.fld 1).b)))]).bind fun o6 =>
    sel2 o6.1 (if (gd o6.2 0).b then
        ou 0 [(.bool false)]
      else
        (e19.F [a0]).bind fun r7 =>
        (e14.F [r4, r7]).bind fun r8 =>
        if (!r8.b) then
          ou 0 [(.bool false)]
        else
          (e15.F [r4, (.int 1)]).bind fun r9 =>
          (if (decide ((r9.fld 0).i < 0)) then
              ou 0 [(.bool true)]
            else
              (e23.F [(r5.fld 0), (r3.fld 0)]).bind fun r10 =>
              if (!r10.b) then
                ou 0 [(.bool true)]
              else
                ou 0 [(.bool (!((r5.fld 1).b == (r3.fld 1).b)))]).bind fun o10 =>
          sel2 o10.1 (if (gd o10.2 0).b then
              ou 0 [(.bool false)]
            else
              (e24.F [(r5.fld 0), (.int 1)]).bind fun r11 =>
              (e25.F [(r11.fld 1), (.int 1)]).bind fun r12 =>
              if (decide (r12.i < 0)) then
                ou 0 [(.bool false)]
              else
                if (r12.i != (r11.fld 0).i) then
                  ou 0 [(.bool false)]
                else
                  (e19.F [a0]).bind fun r13 =>
                  (e27.F [r13]).bind fun r14 =>
                  ((e23.F [(r14.fld 0), (r3.fld 0)]).bind fun r15 =>
                    if (!r15.b) then
                      ou 0 [(.bool true)]
                    else
                      ou 0 [(.bool (!((r14.fld 1).b == (r3.fld 1).b)))]).bind fun o15 =>
                  sel2 o15.1 (if (gd o15.2 0).b then
                      ou 0 [(.bool false)]
                    else
                      (e25.F [(r11.fld 1), (.int 1)]).bind fun r16 =>
                      if (decide (r16.i < 0)) then
                        ou 0 [(.bool false)]
                      else
                        if (r16.i != (r11.fld 0).i) then
                          ou 0 [(.bool false)]
                        else
                          ou 0 [(.bool true)]) fun _ => none) fun _ => none) fun _ => none) := by kernel_rfl
end Go.Proofs.Ytajcjfickmmjcaa
