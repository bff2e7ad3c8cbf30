/- What each function gives, told as plain code. -/
import Derived.Test.YtclddfdojnfpeaaGreatDoorC
set_option linter.unusedSectionVars false
set_option linter.unusedVariables false
set_option linter.unusedSimpArgs false
namespace Go.Proofs.YtclddfdojnfpeaaGreatDoor
open Go Go.Own
set_option maxRecDepth 100000
/-- loop.example/g00300/laws.szRecord -/
theorem q_laws_szRecord (a0 a1 : D) : e_laws_szRecord.F [a0, a1] = rn (
  if (decide ((IntKind.wrap .i64 (a1.i - ((a0.fld 0).s.length : Int))) < 0)) then
    ou 0 [(.int (-1))]
  else
    if (decide ((IntKind.wrap .i64 ((IntKind.wrap .i64 (a1.i - ((a0.fld 0).s.length : Int))) - ((a0.fld 3).s.length : Int))) < 0)) then
      ou 0 [(.int (-1))]
    else
      ou 0 [(.int (IntKind.wrap .i64 ((IntKind.wrap .i64 (a1.i - ((a0.fld 0).s.length : Int))) - ((a0.fld 3).s.length : Int))))]) := by kernel_rfl
/-- loop.example/g00300/laws.szChange -/
theorem q_laws_szChange (a0 a1 : D) : e_laws_szChange.F [a0, a1] = rn (
  (e_laws_szRecord.F [(a0.fld 1), a1]).bind fun r2 =>
  if (decide (r2.i < 0)) then
    ou 0 [(.int (-1))]
  else
    ou 0 [r2]) := by kernel_rfl
/-- loop.example/g00300/laws.szChangeS -/
theorem q_laws_szChangeS (a0 a1 : D) : e_laws_szChangeS.F [a0, a1] = rn (
  if (decide ((IntKind.wrap .i64 (a1.i - (a0.l.length : Int))) < 0)) then
    ou 0 [(.int (-1))]
  else
    (loopF (fun l2 =>
        if (decide ((gd l2 1).i < (a0.l.length : Int))) then
          if (inb (gd l2 1).i a0.l.length) then
          (e_laws_szChange.F [(gd a0.l (gd l2 1).i.toNat), (gd l2 0)]).bind fun r4 =>
          if (decide (r4.i < 0)) then
            ou 1 [(.int (-1))]
          else
            ou 0 [r4, (.int (IntKind.wrap .i64 ((gd l2 1).i + 1)))]
          else none
        else
          ou 2 [(gd l2 0)]) [(.int (IntKind.wrap .i64 (a1.i - (a0.l.length : Int)))), (.int 0)]).bind fun o2 =>
    sel2 o2.1 (ou 0 [(gd o2.2 0)]) fun n4 =>
    sel2 n4 (ou 0 [(gd o2.2 0)]) fun _ => none) := by kernel_rfl
/-- loop.example/g00300/laws.szAsked -/
theorem q_laws_szAsked (a0 a1 : D) : e_laws_szAsked.F [a0, a1] = rn (
  (e_laws_szChangeS.F [(a0.fld 2), a1]).bind fun r2 =>
  if (decide (r2.i < 0)) then
    ou 0 [(.int (-1))]
  else
    ou 0 [r2]) := by kernel_rfl
/-- loop.example/g00300/laws.toRecord -/
theorem q_laws_toRecord (a0 : D) : e_laws_toRecord.F [a0] = rn (
  ou 0 [(.pair (a0.fld 0) (.pair (a0.fld 1) (.pair (a0.fld 2) (.pair (a0.fld 3) .unit))))]) := by kernel_rfl
/-- loop.example/g00300/laws.toChange -/
theorem q_laws_toChange (a0 : D) : e_laws_toChange.F [a0] = rn (
  (e_laws_toRecord.F [(a0.fld 1)]).bind fun r1 =>
  ou 0 [(.pair (a0.fld 0) (.pair r1 .unit))]) := by kernel_rfl
/-- loop.example/g00300/laws.toChangeS -/
theorem q_laws_toChangeS (a0 : D) : e_laws_toChangeS.F [a0] = rn (
  if (makeOk 56 (a0.l.length : Int)) then
  (loopF (fun l1 =>
      if (decide ((gd l1 1).i < (a0.l.length : Int))) then
        if (inb (gd l1 1).i a0.l.length) then
        (e_laws_toChange.F [(gd a0.l (gd l1 1).i.toNat)]).bind fun r3 =>
        if (inb (gd l1 1).i (gd l1 0).l.length) then
        ou 0 [(D.lst ((gd l1 0).l.set (gd l1 1).i.toNat r3)), (.int (IntKind.wrap .i64 ((gd l1 1).i + 1)))]
        else none
        else none
      else
        ou 1 [(gd l1 0)]) [(D.lst (List.replicate (a0.l.length : Int).toNat (.pair (.int 0) (.pair (.pair (.str []) (.pair (.int 0) (.pair (.int 0) (.pair (.str []) .unit)))) .unit)))), (.int 0)]).bind fun o1 =>
  sel2 o1.1 (ou 0 [(gd o1.2 0)]) fun _ => none
  else none) := by kernel_rfl
/-- loop.example/g00300/laws.toAsked -/
theorem q_laws_toAsked (a0 : D) : e_laws_toAsked.F [a0] = rn (
  (e_laws_toChangeS.F [(a0.fld 2)]).bind fun r1 =>
  ou 0 [(.pair (a0.fld 0) (.pair (a0.fld 1) (.pair r1 .unit)))]) := by kernel_rfl
/-- loop.example/g00300/spec.l1In -/
theorem q_spec_l1In (a0 a1 a2 : D) : e_spec_l1In.F [a0, a1, a2] = rn (
  (if (decide (a0.i ≥ a1.i)) then
      ou 0 [(.bool (decide (a0.i ≤ a2.i)))]
    else
      ou 0 [(.bool false)]).bind fun o3 =>
  sel2 o3.1 (ou 0 [(gd o3.2 0)]) fun _ => none) := by kernel_rfl
/-- loop.example/g00300/spec.l16Who -/
theorem q_spec_l16Who (a0 a1 : D) : e_spec_l16Who.F [a0, a1] = rn (
  ((e_spec_l1In.F [a0, (.int 0), (.int 100)]).bind fun r2 =>
    if r2.b then
      (e_spec_l1In.F [a1, (.int 1), (.int 1000)]).bind fun r3 =>
      ou 0 [r3]
    else
      ou 0 [(.bool false)]).bind fun o2 =>
  sel2 o2.1 (ou 0 [(gd o2.2 0)]) fun _ => none) := by kernel_rfl
/-- loop.example/g00300/spec.l1Split -/
theorem q_spec_l1Split (a0 a1 : D) : e_spec_l1Split.F [a0, a1] = rn (
  (loopF (fun l2 =>
      if (decide ((gd l2 2).i < (a0.s.length : Int))) then
        (if (inb (gd l2 2).i a0.s.length) then
          if ((byteAt a0.s (gd l2 2).i.toNat : Int) == a1.i) then
            if (slOk (gd l2 1).i (gd l2 2).i (a0.s.length : Int)) then
            if (appOk 16 (gd l2 0).l ((.str ((a0.s.take (gd l2 2).i.toNat).drop (gd l2 1).i.toNat)) :: ([] : List D))) then
            ou 0 [(D.lst ((gd l2 0).l ++ ((.str ((a0.s.take (gd l2 2).i.toNat).drop (gd l2 1).i.toNat)) :: ([] : List D)))), (.int (IntKind.wrap .i64 ((gd l2 2).i + 1)))]
            else none
            else none
          else
            ou 0 [(gd l2 0), (gd l2 1)]
          else none).bind fun o5 =>
        sel2 o5.1 (ou 0 [(gd o5.2 0), (gd o5.2 1), (.int (IntKind.wrap .i64 ((gd l2 2).i + 1)))]) fun _ => none
      else
        ou 1 [(gd l2 0), (gd l2 1)]) [(D.lst []), (.int 0), (.int 0)]).bind fun o2 =>
  sel2 o2.1 (if (slOk (gd o2.2 1).i (a0.s.length : Int) (a0.s.length : Int)) then
    if (appOk 16 (gd o2.2 0).l ((.str ((a0.s.take (a0.s.length : Int).toNat).drop (gd o2.2 1).i.toNat)) :: ([] : List D))) then
    ou 0 [(D.lst ((gd o2.2 0).l ++ ((.str ((a0.s.take (a0.s.length : Int).toNat).drop (gd o2.2 1).i.toNat)) :: ([] : List D))))]
    else none
    else none) fun _ => none) := by kernel_rfl
/-- loop.example/g00300/spec.l1Int -/
theorem q_spec_l1Int (a0 : D) : e_spec_l1Int.F [a0] = rn (
  ((e_spec_l1In.F [(.int (a0.s.length : Int)), (.int 1), (.int 10)]).bind fun r1 =>
    if (!r1.b) then
      ou 0 [(.bool true)]
    else
      if (inb 0 a0.s.length) then
      if ((byteAt a0.s 0 : Int) == 48) then
        ou 0 [(.bool (decide ((a0.s.length : Int) > 1)))]
      else
        ou 0 [(.bool false)]
      else none).bind fun o1 =>
  sel2 o1.1 (if (gd o1.2 0).b then
      ou 0 [(.int (-1))]
    else
      (loopF (fun l2 =>
          if (decide ((gd l2 1).i < (a0.s.length : Int))) then
            (if (inb (gd l2 1).i a0.s.length) then
              if (decide ((byteAt a0.s (gd l2 1).i.toNat : Int) < 48)) then
                ou 0 [(.bool true)]
              else
                ou 0 [(.bool (decide ((byteAt a0.s (gd l2 1).i.toNat : Int) > 57)))]
              else none).bind fun o4 =>
            sel2 o4.1 (if (gd o4.2 0).b then
                ou 1 [(.int (-1))]
              else
                if (inb (gd l2 1).i a0.s.length) then
                ou 0 [(.int (IntKind.wrap .i64 ((IntKind.wrap .i64 (10 * (gd l2 0).i)) + (IntKind.wrap .i64 (IntKind.wrap .u8 ((byteAt a0.s (gd l2 1).i.toNat : Int) - 48)))))), (.int (IntKind.wrap .i64 ((gd l2 1).i + 1)))]
                else none) fun _ => none
          else
            ou 2 [(gd l2 0)]) [(.int 0), (.int 0)]).bind fun o2 =>
      sel2 o2.1 (ou 0 [(gd o2.2 0)]) fun n6 =>
      sel2 n6 (ou 0 [(gd o2.2 0)]) fun _ => none) fun _ => none) := by kernel_rfl
/-- loop.example/g00300/spec.l3Number -/
theorem q_spec_l3Number (a0 a1 : D) : e_spec_l3Number.F [a0, a1] = rn (
  if (makeOk 1 a1.i) then
  (loopF (fun l2 =>
      if (decide ((gd l2 2).i ≥ 0)) then
        if (inb (gd l2 2).i (gd l2 1).l.length) then
        if (decide (0 ≤ 8)) then
        ou 0 [(.int ((gd l2 0).i.fdiv (2 ^ min 8 (IntKind.bits .i64)))), (D.lst ((gd l2 1).l.set (gd l2 2).i.toNat (.int (IntKind.wrap .u8 (gd l2 0).i)))), (.int (IntKind.wrap .i64 ((gd l2 2).i - 1)))]
        else none
        else none
      else
        ou 1 [(gd l2 1)]) [a0, (D.lst (List.replicate a1.i.toNat (.int 0))), (.int (IntKind.wrap .i64 (a1.i - 1)))]).bind fun o2 =>
  sel2 o2.1 (ou 0 [(.str (bytesStr (gd o2.2 0).l))]) fun _ => none
  else none) := by kernel_rfl
/-- loop.example/g00300/spec.l1Label -/
theorem q_spec_l1Label (a0 : D) : e_spec_l1Label.F [a0] = rn (
  if (a0.s == ([42] : List UInt8)) then
    ou 0 [(.bool true)]
  else
    (loopF (fun l1 =>
        if (decide ((gd l1 0).i < (a0.s.length : Int))) then
          if (inb (gd l1 0).i a0.s.length) then
          (if (decide ((byteAt a0.s (gd l1 0).i.toNat : Int) ≥ 97)) then
              if (decide ((byteAt a0.s (gd l1 0).i.toNat : Int) ≤ 122)) then
                ou 0 [(.bool (!true))]
              else
                if (decide ((byteAt a0.s (gd l1 0).i.toNat : Int) ≥ 48)) then
                  if (decide ((byteAt a0.s (gd l1 0).i.toNat : Int) ≤ 57)) then
                    ou 0 [(.bool (!true))]
                  else
                    if ((byteAt a0.s (gd l1 0).i.toNat : Int) == 45) then
                      ou 0 [(.bool (!true))]
                    else
                      ou 0 [(.bool (!((byteAt a0.s (gd l1 0).i.toNat : Int) == 95)))]
                else
                  if ((byteAt a0.s (gd l1 0).i.toNat : Int) == 45) then
                    ou 0 [(.bool (!true))]
                  else
                    ou 0 [(.bool (!((byteAt a0.s (gd l1 0).i.toNat : Int) == 95)))]
            else
              if (decide ((byteAt a0.s (gd l1 0).i.toNat : Int) ≥ 48)) then
                if (decide ((byteAt a0.s (gd l1 0).i.toNat : Int) ≤ 57)) then
                  ou 0 [(.bool (!true))]
                else
                  if ((byteAt a0.s (gd l1 0).i.toNat : Int) == 45) then
                    ou 0 [(.bool (!true))]
                  else
                    ou 0 [(.bool (!((byteAt a0.s (gd l1 0).i.toNat : Int) == 95)))]
              else
                if ((byteAt a0.s (gd l1 0).i.toNat : Int) == 45) then
                  ou 0 [(.bool (!true))]
                else
                  ou 0 [(.bool (!((byteAt a0.s (gd l1 0).i.toNat : Int) == 95)))]).bind fun o2 =>
          sel2 o2.1 (if (gd o2.2 0).b then
              ou 1 []
            else
              ou 0 [(.int (IntKind.wrap .i64 ((gd l1 0).i + 1)))]) fun _ => none
          else none
        else
          ou 2 []) [(.int 0)]).bind fun o1 =>
    sel2 o1.1 (ou 0 [(.bool false)]) fun n4 =>
    sel2 n4 ((e_spec_l1In.F [(.int (a0.s.length : Int)), (.int 1), (.int 20)]).bind fun r1 =>
      ou 0 [r1]) fun _ => none) := by kernel_rfl
/-- loop.example/g00300/spec.l1Labels -/
theorem q_spec_l1Labels (a0 : D) : e_spec_l1Labels.F [a0] = rn (
  if (a0.s == ([] : List UInt8)) then
    ou 0 [(.pair (D.lst []) (.pair (.bool true) .unit))]
  else
    (e_spec_l1Split.F [a0, (.int 46)]).bind fun r1 =>
    (loopF (fun l2 =>
        if (decide ((gd l2 0).i < (r1.l.length : Int))) then
          if (inb (gd l2 0).i r1.l.length) then
          (e_spec_l1Label.F [(gd r1.l (gd l2 0).i.toNat)]).bind fun r3 =>
          if (!r3.b) then
            ou 1 []
          else
            ou 0 [(.int (IntKind.wrap .i64 ((gd l2 0).i + 1)))]
          else none
        else
          ou 2 []) [(.int 0)]).bind fun o2 =>
    sel2 o2.1 (ou 0 [(.pair (D.lst []) (.pair (.bool false) .unit))]) fun n4 =>
    sel2 n4 ((if (decide ((a0.s.length : Int) ≤ 60)) then
          ou 0 [r1, (.bool (decide ((r1.l.length : Int) ≤ 8)))]
        else
          ou 0 [r1, (.bool false)]).bind fun o2 =>
      sel2 o2.1 (ou 0 [(.pair (gd o2.2 0) (.pair (gd o2.2 1) .unit))]) fun _ => none) fun _ => none) := by kernel_rfl
/-- loop.example/g00300/spec.l3Target -/
theorem q_spec_l3Target (a0 : D) : e_spec_l3Target.F [a0] = rn (
  (e_spec_l1Labels.F [a0]).bind fun r1 =>
  (loopF (fun l2 =>
      if (decide ((gd l2 1).i < ((r1.fld 0).l.length : Int))) then
        (if (inb (gd l2 1).i (r1.fld 0).l.length) then
          if (gd l2 0).b then
            ou 0 [(.bool (!((gd (r1.fld 0).l (gd l2 1).i.toNat).s == ([42] : List UInt8))))]
          else
            ou 0 [(.bool false)]
          else none).bind fun o4 =>
        sel2 o4.1 (ou 0 [(gd o4.2 0), (.int (IntKind.wrap .i64 ((gd l2 1).i + 1)))]) fun _ => none
      else
        ou 1 [(gd l2 0)]) [(r1.fld 1), (.int 0)]).bind fun o2 =>
  sel2 o2.1 ((if (gd o2.2 0).b then
        ou 0 [(.bool (!(a0.s == ([] : List UInt8))))]
      else
        ou 0 [(.bool false)]).bind fun o3 =>
    sel2 o3.1 (ou 0 [(gd o3.2 0)]) fun _ => none) fun _ => none) := by kernel_rfl
/-- loop.example/g00300/spec.l2Bytes -/
theorem q_spec_l2Bytes (a0 : D) : e_spec_l2Bytes.F [a0] = rn (
  (e_spec_l1Labels.F [a0]).bind fun r1 =>
  (loopF (fun l2 =>
      if (decide ((gd l2 1).i < ((r1.fld 0).l.length : Int))) then
        if (inb (gd l2 1).i (r1.fld 0).l.length) then
        if (catOk (bytesStr ((.int (IntKind.wrap .u8 ((gd (r1.fld 0).l (gd l2 1).i.toNat).s.length : Int))) :: ([] : List D))) (gd (r1.fld 0).l (gd l2 1).i.toNat).s) then
        if (catOk (gd l2 0).s ((bytesStr ((.int (IntKind.wrap .u8 ((gd (r1.fld 0).l (gd l2 1).i.toNat).s.length : Int))) :: ([] : List D))) ++ (gd (r1.fld 0).l (gd l2 1).i.toNat).s)) then
        ou 0 [(.str ((gd l2 0).s ++ ((bytesStr ((.int (IntKind.wrap .u8 ((gd (r1.fld 0).l (gd l2 1).i.toNat).s.length : Int))) :: ([] : List D))) ++ (gd (r1.fld 0).l (gd l2 1).i.toNat).s))), (.int (IntKind.wrap .i64 ((gd l2 1).i + 1)))]
        else none
        else none
        else none
      else
        ou 1 [(gd l2 0)]) [(D.str []), (.int 0)]).bind fun o2 =>
  sel2 o2.1 (if (catOk (gd o2.2 0).s ([0] : List UInt8)) then
    ou 0 [(.str ((gd o2.2 0).s ++ ([0] : List UInt8)))]
    else none) fun _ => none) := by kernel_rfl
/-- loop.example/g00300/spec.l3Bytes -/
theorem q_spec_l3Bytes (a0 a1 : D) : e_spec_l3Bytes.F [a0, a1] = rn (
  if (a0.i == 1) then
    (e_spec_l1Split.F [a1, (.int 46)]).bind fun r2 =>
    (loopF (fun l3 =>
        if (decide ((gd l3 1).i < (r2.l.length : Int))) then
          if (inb (gd l3 1).i r2.l.length) then
          (e_spec_l1Int.F [(gd r2.l (gd l3 1).i.toNat)]).bind fun r5 =>
          (e_spec_l1In.F [r5, (.int 0), (.int 255)]).bind fun r6 =>
          if (!r6.b) then
            ou 1 []
          else
            (e_spec_l3Number.F [r5, (.int 1)]).bind fun r7 =>
            if (catOk (gd l3 0).s r7.s) then
            ou 0 [(.str ((gd l3 0).s ++ r7.s)), (.int (IntKind.wrap .i64 ((gd l3 1).i + 1)))]
            else none
          else none
        else
          ou 2 [(gd l3 0)]) [(D.str []), (.int 0)]).bind fun o3 =>
    sel2 o3.1 (ou 0 [(.pair (D.str []) (.pair (.bool false) .unit))]) fun n4 =>
    sel2 n4 (ou 0 [(.pair (gd o3.2 0) (.pair (.bool ((r2.l.length : Int) == 4)) .unit))]) fun _ => none
  else
    (if (a0.i == 2) then
        ou 0 [(.bool (a0.i == 2))]
      else
        ou 0 [(.bool (a0.i == 5))]).bind fun o2 =>
    sel2 o2.1 (if (gd o2.2 0).b then
        (e_spec_l3Target.F [a1]).bind fun r3 =>
        if (!r3.b) then
          ou 0 [(.pair (D.str []) (.pair (.bool false) .unit))]
        else
          (e_spec_l2Bytes.F [a1]).bind fun r4 =>
          ou 0 [(.pair r4 (.pair (.bool true) .unit))]
      else
        if (a0.i == 6) then
          (e_spec_l1Int.F [a1]).bind fun r3 =>
          (e_spec_l3Number.F [r3, (.int 4)]).bind fun r4 =>
          (e_spec_l1In.F [r3, (.int 0), (.int 4294967295)]).bind fun r5 =>
          ou 0 [(.pair r4 (.pair r5 .unit))]
        else
          if (a0.i == 15) then
            (e_spec_l1Split.F [a1, (.int 32)]).bind fun r3 =>
            (if ((r3.l.length : Int) != 2) then
                ou 0 [(.bool true)]
              else
                if (inb 0 r3.l.length) then
                (e_spec_l1Int.F [(gd r3.l 0)]).bind fun r4 =>
                (e_spec_l1In.F [r4, (.int 0), (.int 65535)]).bind fun r5 =>
                if (!r5.b) then
                  ou 0 [(.bool true)]
                else
                  if (inb 1 r3.l.length) then
                  (e_spec_l3Target.F [(gd r3.l 1)]).bind fun r6 =>
                  ou 0 [(.bool (!r6.b))]
                  else none
                else none).bind fun o4 =>
            sel2 o4.1 (if (gd o4.2 0).b then
                ou 0 [(.pair (D.str []) (.pair (.bool false) .unit))]
              else
                if (inb 0 r3.l.length) then
                (e_spec_l1Int.F [(gd r3.l 0)]).bind fun r5 =>
                (e_spec_l3Number.F [r5, (.int 2)]).bind fun r6 =>
                if (inb 1 r3.l.length) then
                (e_spec_l2Bytes.F [(gd r3.l 1)]).bind fun r7 =>
                if (catOk r6.s r7.s) then
                ou 0 [(.pair (.str (r6.s ++ r7.s)) (.pair (.bool true) .unit))]
                else none
                else none
                else none) fun _ => none
          else
            if (a0.i == 16) then
              (loopF (fun l3 =>
                  if (decide ((gd l3 0).i < (a1.s.length : Int))) then
                    (if (inb (gd l3 0).i a1.s.length) then
                      if (decide ((byteAt a1.s (gd l3 0).i.toNat : Int) < 32)) then
                        ou 0 [(.bool true)]
                      else
                        ou 0 [(.bool (decide ((byteAt a1.s (gd l3 0).i.toNat : Int) > 126)))]
                      else none).bind fun o4 =>
                    sel2 o4.1 (if (gd o4.2 0).b then
                        ou 1 [(D.str []), (.bool false)]
                      else
                        ou 0 [(.int (IntKind.wrap .i64 ((gd l3 0).i + 1)))]) fun _ => none
                  else
                    ou 2 []) [(.int 0)]).bind fun o3 =>
              sel2 o3.1 (ou 0 [(.pair (gd o3.2 0) (.pair (gd o3.2 1) .unit))]) fun n14 =>
              sel2 n14 (if (catOk (bytesStr ((.int (IntKind.wrap .u8 (a1.s.length : Int))) :: ([] : List D))) a1.s) then
                ou 0 [(.pair (.str ((bytesStr ((.int (IntKind.wrap .u8 (a1.s.length : Int))) :: ([] : List D))) ++ a1.s)) (.pair (.bool (decide ((a1.s.length : Int) ≤ 30))) .unit))]
                else none) fun _ => none
            else
              ou 0 [(.pair (D.str []) (.pair (.bool false) .unit))]) fun _ => none) := by kernel_rfl
/-- loop.example/g00300/spec.GoodName -/
theorem q_spec_GoodName (a0 : D) : e_spec_GoodName.F [a0] = rn (
  (e_spec_l1Labels.F [a0]).bind fun r1 =>
  ou 0 [(r1.fld 1)]) := by kernel_rfl
/-- loop.example/g00300/spec.GoodRecord -/
theorem q_spec_GoodRecord (a0 : D) : e_spec_GoodRecord.F [a0] = rn (
  (e_spec_l3Bytes.F [(a0.fld 1), (a0.fld 3)]).bind fun r1 =>
  (if (r1.fld 1).b then
      (e_spec_GoodName.F [(a0.fld 0)]).bind fun r2 =>
      if r2.b then
        (e_spec_l1In.F [(a0.fld 2), (.int 0), (.int 100000)]).bind fun r3 =>
        ou 0 [r3]
      else
        ou 0 [(.bool false)]
    else
      ou 0 [(.bool false)]).bind fun o2 =>
  sel2 o2.1 (ou 0 [(gd o2.2 0)]) fun _ => none) := by kernel_rfl
/-- loop.example/g00300/spec.l6Batch -/
theorem q_spec_l6Batch (a0 : D) : e_spec_l6Batch.F [a0] = rn (
  (loopF (fun l1 =>
      if (decide ((gd l1 0).i < (a0.l.length : Int))) then
        if (inb (gd l1 0).i a0.l.length) then
        ((e_spec_l1In.F [((gd a0.l (gd l1 0).i.toNat).fld 0), (.int 1), (.int 4)]).bind fun r2 =>
          if (!r2.b) then
            ou 0 [(.bool true)]
          else
            (e_spec_GoodRecord.F [((gd a0.l (gd l1 0).i.toNat).fld 1)]).bind fun r3 =>
            if (!r3.b) then
              ou 0 [(.bool true)]
            else
              ou 0 [(.bool ((((gd a0.l (gd l1 0).i.toNat).fld 1).fld 1).i == 6))]).bind fun o2 =>
        sel2 o2.1 (if (gd o2.2 0).b then
            ou 1 []
          else
            ou 0 [(.int (IntKind.wrap .i64 ((gd l1 0).i + 1)))]) fun _ => none
        else none
      else
        ou 2 []) [(.int 0)]).bind fun o1 =>
  sel2 o1.1 (ou 0 [(.bool false)]) fun n2 =>
  sel2 n2 (ou 0 [(.bool (decide ((a0.l.length : Int) ≤ 12)))]) fun _ => none) := by kernel_rfl
/-- loop.example/g00300/spec.l1Num -/
theorem q_spec_l1Num (k : Nat) (a0 : D) : f_rec_spec_l1Num (k + 1) [a0] = rn (
  if (decide (a0.i < 10)) then
    ou 0 [(.str (bytesStr ((.int (IntKind.wrap .u8 (IntKind.wrap .i64 (48 + a0.i)))) :: ([] : List D))))]
  else
    if (10 != 0) then
    (f_rec_spec_l1Num k [(.int (IntKind.wrap .i64 (a0.i.tdiv 10)))]).bind fun r1 =>
    if (catOk r1.s (bytesStr ((.int (IntKind.wrap .u8 (IntKind.wrap .i64 (48 + (a0.i.tmod 10))))) :: ([] : List D)))) then
    ou 0 [(.str (r1.s ++ (bytesStr ((.int (IntKind.wrap .u8 (IntKind.wrap .i64 (48 + (a0.i.tmod 10))))) :: ([] : List D)))))]
    else none
    else none) := by kernel_rfl
/-- loop.example/g00300/spec.l3Text -/
theorem q_spec_l3Text (a0 : D) : e_spec_l3Text.F [a0] = rn (
  (if ((a0.fld 0).s == ([] : List UInt8)) then
      ou 0 [(D.str [46])]
    else
      ou 0 [(a0.fld 0)]).bind fun o1 =>
  sel2 o1.1 (if (catOk (gd o1.2 0).s ([32] : List UInt8)) then
    (e_spec_l1Num.F [(a0.fld 2)]).bind fun r2 =>
    if (catOk ((gd o1.2 0).s ++ ([32] : List UInt8)) r2.s) then
    if (catOk (((gd o1.2 0).s ++ ([32] : List UInt8)) ++ r2.s) ([32] : List UInt8)) then
    (e_spec_l1Num.F [(a0.fld 1)]).bind fun r3 =>
    if (catOk ((((gd o1.2 0).s ++ ([32] : List UInt8)) ++ r2.s) ++ ([32] : List UInt8)) r3.s) then
    if (catOk (((((gd o1.2 0).s ++ ([32] : List UInt8)) ++ r2.s) ++ ([32] : List UInt8)) ++ r3.s) ([32] : List UInt8)) then
    if (catOk ((((((gd o1.2 0).s ++ ([32] : List UInt8)) ++ r2.s) ++ ([32] : List UInt8)) ++ r3.s) ++ ([32] : List UInt8)) (a0.fld 3).s) then
    ou 0 [(.str (((((((gd o1.2 0).s ++ ([32] : List UInt8)) ++ r2.s) ++ ([32] : List UInt8)) ++ r3.s) ++ ([32] : List UInt8)) ++ (a0.fld 3).s))]
    else none
    else none
    else none
    else none
    else none
    else none) fun _ => none) := by kernel_rfl
/-- loop.example/g00300/spec.l16Text -/
theorem q_spec_l16Text (a0 : D) : e_spec_l16Text.F [a0] = rn (
  (e_spec_l1Num.F [(a0.fld 0)]).bind fun r1 =>
  if (catOk r1.s ([32] : List UInt8)) then
  (e_spec_l1Num.F [(a0.fld 1)]).bind fun r2 =>
  if (catOk (r1.s ++ ([32] : List UInt8)) r2.s) then
  (loopF (fun l3 =>
      if (decide ((gd l3 1).i < ((a0.fld 2).l.length : Int))) then
        if (inb (gd l3 1).i (a0.fld 2).l.length) then
        (e_spec_l1Num.F [((gd (a0.fld 2).l (gd l3 1).i.toNat).fld 0)]).bind fun r5 =>
        if (catOk ([10] : List UInt8) r5.s) then
        if (catOk (([10] : List UInt8) ++ r5.s) ([32] : List UInt8)) then
        (e_spec_l3Text.F [((gd (a0.fld 2).l (gd l3 1).i.toNat).fld 1)]).bind fun r6 =>
        if (catOk ((([10] : List UInt8) ++ r5.s) ++ ([32] : List UInt8)) r6.s) then
        if (catOk (gd l3 0).s (((([10] : List UInt8) ++ r5.s) ++ ([32] : List UInt8)) ++ r6.s)) then
        ou 0 [(.str ((gd l3 0).s ++ (((([10] : List UInt8) ++ r5.s) ++ ([32] : List UInt8)) ++ r6.s))), (.int (IntKind.wrap .i64 ((gd l3 1).i + 1)))]
        else none
        else none
        else none
        else none
        else none
      else
        ou 1 [(gd l3 0)]) [(.str ((r1.s ++ ([32] : List UInt8)) ++ r2.s)), (.int 0)]).bind fun o3 =>
  sel2 o3.1 (ou 0 [(gd o3.2 0)]) fun _ => none
  else none
  else none) := by kernel_rfl
/-- loop.example/g00300/spec.AskedText -/
theorem q_spec_AskedText (a0 : D) : e_spec_AskedText.F [a0] = rn (
  ((e_spec_l16Who.F [(a0.fld 0), (a0.fld 1)]).bind fun r1 =>
    if (!r1.b) then
      ou 0 [(.bool true)]
    else
      (e_spec_l6Batch.F [(a0.fld 2)]).bind fun r2 =>
      ou 0 [(.bool (!r2.b))]).bind fun o1 =>
  sel2 o1.1 (if (gd o1.2 0).b then
      ou 0 [(.pair (D.str []) (.pair (.bool false) .unit))]
    else
      (e_spec_l16Text.F [a0]).bind fun r2 =>
      ou 0 [(.pair r2 (.pair (.bool true) .unit))]) fun _ => none) := by kernel_rfl
/-- loop.example/g00300/impl.within -/
theorem q_impl_within (a0 a1 a2 : D) : e_impl_within.F [a0, a1, a2] = rn (
  (if (decide (a0.i ≥ a1.i)) then
      ou 0 [(.bool (decide (a0.i ≤ a2.i)))]
    else
      ou 0 [(.bool false)]).bind fun o3 =>
  sel2 o3.1 (ou 0 [(gd o3.2 0)]) fun _ => none) := by kernel_rfl
/-- loop.example/g00300/impl.isClient -/
theorem q_impl_isClient (a0 a1 : D) : e_impl_isClient.F [a0, a1] = rn (
  ((e_impl_within.F [a0, (.int 0), (.int 100)]).bind fun r2 =>
    if r2.b then
      (e_impl_within.F [a1, (.int 1), (.int 1000)]).bind fun r3 =>
      ou 0 [r3]
    else
      ou 0 [(.bool false)]).bind fun o2 =>
  sel2 o2.1 (ou 0 [(gd o2.2 0)]) fun _ => none) := by kernel_rfl
/-- loop.example/g00300/impl.labelsOf -/
theorem q_impl_labelsOf (a0 : D) : e_impl_labelsOf.F [a0] = rn (
  if (a0.s == ([] : List UInt8)) then
    ou 0 [(D.lst [])]
  else
    (e_strings_Split.F [a0, (D.str [46])]).bind fun r1 =>
    ou 0 [r1]) := by kernel_rfl
/-- loop.example/g00300/impl.isLabel -/
theorem q_impl_isLabel (a0 : D) : e_impl_isLabel.F [a0] = rn (
  if (a0.s == ([42] : List UInt8)) then
    ou 0 [(.bool true)]
  else
    ((e_impl_within.F [(.int (a0.s.length : Int)), (.int 1), (.int 20)]).bind fun r1 =>
      if r1.b then
        (e_strings_Trim.F [a0, (D.str [97, 98, 99, 100, 101, 102, 103, 104, 105, 106, 107, 108, 109, 110, 111, 112, 113, 114, 115, 116, 117, 118, 119, 120, 121, 122, 48, 49, 50, 51, 52, 53, 54, 55, 56, 57, 45, 95])]).bind fun r2 =>
        ou 0 [(.bool (r2.s == ([] : List UInt8)))]
      else
        ou 0 [(.bool false)]).bind fun o1 =>
    sel2 o1.1 (ou 0 [(gd o1.2 0)]) fun _ => none) := by kernel_rfl
/-- loop.example/g00300/impl.GoodName$1 -/
theorem q_impl_GoodName_1 (a0 : D) : e_impl_GoodName_1.F [a0] = rn (
  (e_impl_isLabel.F [a0]).bind fun r1 =>
  ou 0 [(.bool (!r1.b))]) := by kernel_rfl
/-- slices.IndexFunc[[]string,string] -/
theorem q_slices_IndexFunc_string_string__impl_GoodName_1 (a0 a1 : D) : e_slices_IndexFunc_string_string__impl_GoodName_1.F [a0, a1] = rn (
  (loopF (fun l2 =>
      if (decide ((gd l2 0).i < (a0.l.length : Int))) then
        if (inb (gd l2 0).i a0.l.length) then
        (e_impl_GoodName_1.F [(gd a0.l (gd l2 0).i.toNat)]).bind fun r3 =>
        if r3.b then
          ou 1 [(gd l2 0)]
        else
          ou 0 [(.int (IntKind.wrap .i64 ((gd l2 0).i + 1)))]
        else none
      else
        ou 2 []) [(.int 0)]).bind fun o2 =>
  sel2 o2.1 (ou 0 [(gd o2.2 0)]) fun n2 =>
  sel2 n2 (ou 0 [(.int (-1))]) fun _ => none) := by kernel_rfl
/-- slices.ContainsFunc[[]string,string] -/
theorem q_slices_ContainsFunc_string_string__impl_GoodName_1 (a0 a1 : D) : e_slices_ContainsFunc_string_string__impl_GoodName_1.F [a0, a1] = rn (
  (e_slices_IndexFunc_string_string__impl_GoodName_1.F [a0, a1]).bind fun r2 =>
  ou 0 [(.bool (decide (r2.i ≥ 0)))]) := by kernel_rfl
/-- loop.example/g00300/impl.GoodName -/
theorem q_impl_GoodName (a0 : D) : e_impl_GoodName.F [a0] = rn (
  if (decide ((a0.s.length : Int) > 60)) then
    ou 0 [(.bool false)]
  else
    (e_impl_labelsOf.F [a0]).bind fun r1 =>
    (if (decide ((r1.l.length : Int) ≤ 8)) then
        (e_slices_ContainsFunc_string_string__impl_GoodName_1.F [r1, .unit]).bind fun r2 =>
        ou 0 [(.bool (!r2.b))]
      else
        ou 0 [(.bool false)]).bind fun o2 =>
    sel2 o2.1 (ou 0 [(gd o2.2 0)]) fun _ => none) := by kernel_rfl
/-- loop.example/g00300/impl.numberIn -/
theorem q_impl_numberIn (a0 a1 : D) : e_impl_numberIn.F [a0, a1] = rn (
  (e_strconv_Atoi.F [a0]).bind fun r2 =>
  (if (!(r2.fld 1).b) then
      (e_impl_within.F [(r2.fld 0), (.int 0), a1]).bind fun r3 =>
      if r3.b then
        (e_strconv_Itoa.F [(r2.fld 0)]).bind fun r4 =>
        ou 0 [(r2.fld 0), (.bool (r4.s == a0.s))]
      else
        ou 0 [(r2.fld 0), (.bool false)]
    else
      ou 0 [(r2.fld 0), (.bool false)]).bind fun o3 =>
  sel2 o3.1 (ou 0 [(.pair (gd o3.2 0) (.pair (gd o3.2 1) .unit))]) fun _ => none) := by kernel_rfl
/-- loop.example/g00300/impl.big -/
theorem q_impl_big (a0 a1 : D) : e_impl_big.F [a0, a1] = rn (
  (loopF (fun l2 =>
      if (decide ((gd l2 1).i ≥ 0)) then
        if (decide (0 ≤ (IntKind.wrap .i64 (8 * (gd l2 1).i)))) then
        if (appOk 1 (gd l2 0).l ((.int (IntKind.wrap .u8 (a0.i.fdiv (2 ^ min (IntKind.wrap .i64 (8 * (gd l2 1).i)).toNat (IntKind.bits .i64))))) :: ([] : List D))) then
        ou 0 [(D.lst ((gd l2 0).l ++ ((.int (IntKind.wrap .u8 (a0.i.fdiv (2 ^ min (IntKind.wrap .i64 (8 * (gd l2 1).i)).toNat (IntKind.bits .i64))))) :: ([] : List D)))), (.int (IntKind.wrap .i64 ((gd l2 1).i - 1)))]
        else none
        else none
      else
        ou 1 [(gd l2 0)]) [(D.lst []), (.int (IntKind.wrap .i64 (a1.i - 1)))]).bind fun o2 =>
  sel2 o2.1 (ou 0 [(.str (bytesStr (gd o2.2 0).l))]) fun _ => none) := by kernel_rfl
/-- loop.example/g00300/impl.isTarget -/
theorem q_impl_isTarget (a0 : D) : e_impl_isTarget.F [a0] = rn (
  (if (!(a0.s == ([] : List UInt8))) then
      (e_impl_GoodName.F [a0]).bind fun r1 =>
      if r1.b then
        (e_strings_Contains.F [a0, (D.str [42])]).bind fun r2 =>
        ou 0 [(.bool (!r2.b))]
      else
        ou 0 [(.bool false)]
    else
      ou 0 [(.bool false)]).bind fun o1 =>
  sel2 o1.1 (ou 0 [(gd o1.2 0)]) fun _ => none) := by kernel_rfl
/-- loop.example/g00300/impl.labelBytes -/
theorem q_impl_labelBytes (a0 : D) : e_impl_labelBytes.F [a0] = rn (
  (e_impl_labelsOf.F [a0]).bind fun r1 =>
  (loopF (fun l2 =>
      if (decide ((gd l2 1).i < (r1.l.length : Int))) then
        if (inb (gd l2 1).i r1.l.length) then
        if (catOk (bytesStr ((.int (IntKind.wrap .u8 ((gd r1.l (gd l2 1).i.toNat).s.length : Int))) :: ([] : List D))) (gd r1.l (gd l2 1).i.toNat).s) then
        if (catOk (gd l2 0).s ((bytesStr ((.int (IntKind.wrap .u8 ((gd r1.l (gd l2 1).i.toNat).s.length : Int))) :: ([] : List D))) ++ (gd r1.l (gd l2 1).i.toNat).s)) then
        ou 0 [(.str ((gd l2 0).s ++ ((bytesStr ((.int (IntKind.wrap .u8 ((gd r1.l (gd l2 1).i.toNat).s.length : Int))) :: ([] : List D))) ++ (gd r1.l (gd l2 1).i.toNat).s))), (.int (IntKind.wrap .i64 ((gd l2 1).i + 1)))]
        else none
        else none
        else none
      else
        ou 1 [(gd l2 0)]) [(D.str []), (.int 0)]).bind fun o2 =>
  sel2 o2.1 (ou 0 [(gd o2.2 0)]) fun _ => none) := by kernel_rfl
/-- loop.example/g00300/impl.DataBytes$1 -/
theorem q_impl_DataBytes_1 (a0 : D) : e_impl_DataBytes_1.F [a0] = rn (
  (if (decide (a0.i < 32)) then
      ou 0 [(.bool true)]
    else
      ou 0 [(.bool (decide (a0.i > 126)))]).bind fun o1 =>
  sel2 o1.1 (ou 0 [(gd o1.2 0)]) fun _ => none) := by kernel_rfl
/-- slices.IndexFunc[[]byte,byte] -/
theorem q_slices_IndexFunc_byte_byte__impl_DataBytes_1 (a0 a1 : D) : e_slices_IndexFunc_byte_byte__impl_DataBytes_1.F [a0, a1] = rn (
  (loopF (fun l2 =>
      if (decide ((gd l2 0).i < (a0.l.length : Int))) then
        if (inb (gd l2 0).i a0.l.length) then
        (e_impl_DataBytes_1.F [(gd a0.l (gd l2 0).i.toNat)]).bind fun r3 =>
        if r3.b then
          ou 1 [(gd l2 0)]
        else
          ou 0 [(.int (IntKind.wrap .i64 ((gd l2 0).i + 1)))]
        else none
      else
        ou 2 []) [(.int 0)]).bind fun o2 =>
  sel2 o2.1 (ou 0 [(gd o2.2 0)]) fun n2 =>
  sel2 n2 (ou 0 [(.int (-1))]) fun _ => none) := by kernel_rfl
/-- slices.ContainsFunc[[]byte,byte] -/
theorem q_slices_ContainsFunc_byte_byte__impl_DataBytes_1 (a0 a1 : D) : e_slices_ContainsFunc_byte_byte__impl_DataBytes_1.F [a0, a1] = rn (
  (e_slices_IndexFunc_byte_byte__impl_DataBytes_1.F [a0, a1]).bind fun r2 =>
  ou 0 [(.bool (decide (r2.i ≥ 0)))]) := by kernel_rfl
/-- loop.example/g00300/impl.DataBytes -/
theorem q_impl_DataBytes (a0 a1 : D) : e_impl_DataBytes.F [a0, a1] = rn (
  if (a0.i == 1) then
    (e_strings_Split.F [a1, (D.str [46])]).bind fun r2 =>
    (loopF (fun l3 =>
        if (decide ((gd l3 1).i < (r2.l.length : Int))) then
          if (inb (gd l3 1).i r2.l.length) then
          (e_impl_numberIn.F [(gd r2.l (gd l3 1).i.toNat), (.int 255)]).bind fun r5 =>
          (if (!(r5.fld 1).b) then
              ou 0 [(.bool true)]
            else
              ou 0 [(.bool ((r2.l.length : Int) != 4))]).bind fun o6 =>
          sel2 o6.1 (if (gd o6.2 0).b then
              ou 1 []
            else
              (e_impl_big.F [(r5.fld 0), (.int 1)]).bind fun r7 =>
              if (catOk (gd l3 0).s r7.s) then
              ou 0 [(.str ((gd l3 0).s ++ r7.s)), (.int (IntKind.wrap .i64 ((gd l3 1).i + 1)))]
              else none) fun _ => none
          else none
        else
          ou 2 [(gd l3 0)]) [(D.str []), (.int 0)]).bind fun o3 =>
    sel2 o3.1 (ou 0 [(.pair (D.str []) (.pair (.bool false) .unit))]) fun n4 =>
    sel2 n4 (ou 0 [(.pair (gd o3.2 0) (.pair (.bool true) .unit))]) fun _ => none
  else
    (if (a0.i == 2) then
        ou 0 [(.bool (a0.i == 2))]
      else
        ou 0 [(.bool (a0.i == 5))]).bind fun o2 =>
    sel2 o2.1 (if (gd o2.2 0).b then
        (e_impl_isTarget.F [a1]).bind fun r3 =>
        if (!r3.b) then
          ou 0 [(.pair (D.str []) (.pair (.bool false) .unit))]
        else
          (e_impl_labelBytes.F [a1]).bind fun r4 =>
          if (catOk r4.s ([0] : List UInt8)) then
          ou 0 [(.pair (.str (r4.s ++ ([0] : List UInt8))) (.pair (.bool true) .unit))]
          else none
      else
        if (a0.i == 6) then
          (e_impl_numberIn.F [a1, (.int 4294967295)]).bind fun r3 =>
          if (!(r3.fld 1).b) then
            ou 0 [(.pair (D.str []) (.pair (.bool false) .unit))]
          else
            (e_impl_big.F [(r3.fld 0), (.int 4)]).bind fun r4 =>
            ou 0 [(.pair r4 (.pair (.bool true) .unit))]
        else
          if (a0.i == 15) then
            (e_strings_Cut.F [a1, (D.str [32])]).bind fun r3 =>
            (e_impl_numberIn.F [(r3.fld 0), (.int 65535)]).bind fun r4 =>
            (if (!(r4.fld 1).b) then
                ou 0 [(.bool true)]
              else
                (e_impl_isTarget.F [(r3.fld 1)]).bind fun r5 =>
                ou 0 [(.bool (!r5.b))]).bind fun o5 =>
            sel2 o5.1 (if (gd o5.2 0).b then
                ou 0 [(.pair (D.str []) (.pair (.bool false) .unit))]
              else
                (e_impl_big.F [(r4.fld 0), (.int 2)]).bind fun r6 =>
                (e_impl_labelBytes.F [(r3.fld 1)]).bind fun r7 =>
                if (catOk r6.s r7.s) then
                if (catOk (r6.s ++ r7.s) ([0] : List UInt8)) then
                ou 0 [(.pair (.str ((r6.s ++ r7.s) ++ ([0] : List UInt8))) (.pair (.bool true) .unit))]
                else none
                else none) fun _ => none
          else
            if (a0.i == 16) then
              (if (decide ((a1.s.length : Int) > 30)) then
                  ou 0 [(.bool true)]
                else
                  (e_slices_ContainsFunc_byte_byte__impl_DataBytes_1.F [(D.lst (a1.s.map fun c => D.int c.toNat)), .unit]).bind fun r3 =>
                  ou 0 [r3]).bind fun o3 =>
              sel2 o3.1 (if (gd o3.2 0).b then
                  ou 0 [(.pair (D.str []) (.pair (.bool false) .unit))]
                else
                  (e_impl_big.F [(.int (a1.s.length : Int)), (.int 1)]).bind fun r4 =>
                  if (catOk r4.s a1.s) then
                  ou 0 [(.pair (.str (r4.s ++ a1.s)) (.pair (.bool true) .unit))]
                  else none) fun _ => none
            else
              ou 0 [(.pair (D.str []) (.pair (.bool false) .unit))]) fun _ => none) := by kernel_rfl
/-- loop.example/g00300/impl.GoodRecord -/
theorem q_impl_GoodRecord (a0 : D) : e_impl_GoodRecord.F [a0] = rn (
  ((e_impl_GoodName.F [(a0.fld 0)]).bind fun r1 =>
    if (!r1.b) then
      ou 0 [(.bool true)]
    else
      (e_impl_within.F [(a0.fld 2), (.int 0), (.int 100000)]).bind fun r2 =>
      if (!r2.b) then
        ou 0 [(.bool true)]
      else
        ou 0 [(.bool (decide (((a0.fld 3).s.length : Int) > 100)))]).bind fun o1 =>
  sel2 o1.1 (if (gd o1.2 0).b then
      ou 0 [(.bool false)]
    else
      (e_impl_DataBytes.F [(a0.fld 1), (a0.fld 3)]).bind fun r2 =>
      ou 0 [(r2.fld 1)]) fun _ => none) := by kernel_rfl
/-- loop.example/g00300/impl.areChanges$1 -/
theorem q_impl_areChanges_1 (a0 : D) : e_impl_areChanges_1.F [a0] = rn (
  ((e_impl_within.F [(a0.fld 0), (.int 1), (.int 4)]).bind fun r1 =>
    if (!r1.b) then
      ou 0 [(.bool true)]
    else
      (e_impl_GoodRecord.F [(a0.fld 1)]).bind fun r2 =>
      if (!r2.b) then
        ou 0 [(.bool true)]
      else
        ou 0 [(.bool (((a0.fld 1).fld 1).i == 6))]).bind fun o1 =>
  sel2 o1.1 (ou 0 [(gd o1.2 0)]) fun _ => none) := by kernel_rfl
/-- slices.IndexFunc[[]loop.example/g00300/impl.Change,loop.example/g00300/impl.Change] -/
theorem q_slices_IndexFunc_impl_Change_impl_Change__impl_areChanges_1 (a0 a1 : D) : e_slices_IndexFunc_impl_Change_impl_Change__impl_areChanges_1.F [a0, a1] = rn (
  (loopF (fun l2 =>
      if (decide ((gd l2 0).i < (a0.l.length : Int))) then
        if (inb (gd l2 0).i a0.l.length) then
        (e_impl_areChanges_1.F [(gd a0.l (gd l2 0).i.toNat)]).bind fun r3 =>
        if r3.b then
          ou 1 [(gd l2 0)]
        else
          ou 0 [(.int (IntKind.wrap .i64 ((gd l2 0).i + 1)))]
        else none
      else
        ou 2 []) [(.int 0)]).bind fun o2 =>
  sel2 o2.1 (ou 0 [(gd o2.2 0)]) fun n2 =>
  sel2 n2 (ou 0 [(.int (-1))]) fun _ => none) := by kernel_rfl
/-- slices.ContainsFunc[[]loop.example/g00300/impl.Change,loop.example/g00300/impl.Change] -/
theorem q_slices_ContainsFunc_impl_Change_impl_Change__impl_areChanges_1 (a0 a1 : D) : e_slices_ContainsFunc_impl_Change_impl_Change__impl_areChanges_1.F [a0, a1] = rn (
  (e_slices_IndexFunc_impl_Change_impl_Change__impl_areChanges_1.F [a0, a1]).bind fun r2 =>
  ou 0 [(.bool (decide (r2.i ≥ 0)))]) := by kernel_rfl
/-- loop.example/g00300/impl.areChanges -/
theorem q_impl_areChanges (a0 : D) : e_impl_areChanges.F [a0] = rn (
  (if (decide ((a0.l.length : Int) ≤ 12)) then
      (e_slices_ContainsFunc_impl_Change_impl_Change__impl_areChanges_1.F [a0, .unit]).bind fun r1 =>
      ou 0 [(.bool (!r1.b))]
    else
      ou 0 [(.bool false)]).bind fun o1 =>
  sel2 o1.1 (ou 0 [(gd o1.2 0)]) fun _ => none) := by kernel_rfl
/-- loop.example/g00300/impl.told -/
theorem q_impl_told (a0 : D) : e_impl_told.F [a0] = rn (
  if (a0.s == ([] : List UInt8)) then
    ou 0 [(D.str [46])]
  else
    ou 0 [a0]) := by kernel_rfl
/-- loop.example/g00300/impl.recordText -/
theorem q_impl_recordText (a0 : D) : e_impl_recordText.F [a0] = rn (
  (e_impl_told.F [(a0.fld 0)]).bind fun r1 =>
  if (catOk r1.s ([32] : List UInt8)) then
  (e_strconv_Itoa.F [(a0.fld 2)]).bind fun r2 =>
  if (catOk (r1.s ++ ([32] : List UInt8)) r2.s) then
  if (catOk ((r1.s ++ ([32] : List UInt8)) ++ r2.s) ([32] : List UInt8)) then
  (e_strconv_Itoa.F [(a0.fld 1)]).bind fun r3 =>
  if (catOk (((r1.s ++ ([32] : List UInt8)) ++ r2.s) ++ ([32] : List UInt8)) r3.s) then
  if (catOk ((((r1.s ++ ([32] : List UInt8)) ++ r2.s) ++ ([32] : List UInt8)) ++ r3.s) ([32] : List UInt8)) then
  if (catOk (((((r1.s ++ ([32] : List UInt8)) ++ r2.s) ++ ([32] : List UInt8)) ++ r3.s) ++ ([32] : List UInt8)) (a0.fld 3).s) then
  ou 0 [(.str ((((((r1.s ++ ([32] : List UInt8)) ++ r2.s) ++ ([32] : List UInt8)) ++ r3.s) ++ ([32] : List UInt8)) ++ (a0.fld 3).s))]
  else none
  else none
  else none
  else none
  else none
  else none) := by kernel_rfl
/-- loop.example/g00300/impl.askedText -/
theorem q_impl_askedText (a0 : D) : e_impl_askedText.F [a0] = rn (
  (e_strconv_Itoa.F [(a0.fld 0)]).bind fun r1 =>
  if (catOk r1.s ([32] : List UInt8)) then
  (e_strconv_Itoa.F [(a0.fld 1)]).bind fun r2 =>
  if (catOk (r1.s ++ ([32] : List UInt8)) r2.s) then
  (loopF (fun l3 =>
      if (decide ((gd l3 1).i < ((a0.fld 2).l.length : Int))) then
        if (inb (gd l3 1).i (a0.fld 2).l.length) then
        (e_strconv_Itoa.F [((gd (a0.fld 2).l (gd l3 1).i.toNat).fld 0)]).bind fun r5 =>
        if (catOk ([10] : List UInt8) r5.s) then
        if (catOk (([10] : List UInt8) ++ r5.s) ([32] : List UInt8)) then
        (e_impl_recordText.F [((gd (a0.fld 2).l (gd l3 1).i.toNat).fld 1)]).bind fun r6 =>
        if (catOk ((([10] : List UInt8) ++ r5.s) ++ ([32] : List UInt8)) r6.s) then
        if (catOk (gd l3 0).s (((([10] : List UInt8) ++ r5.s) ++ ([32] : List UInt8)) ++ r6.s)) then
        ou 0 [(.str ((gd l3 0).s ++ (((([10] : List UInt8) ++ r5.s) ++ ([32] : List UInt8)) ++ r6.s))), (.int (IntKind.wrap .i64 ((gd l3 1).i + 1)))]
        else none
        else none
        else none
        else none
        else none
      else
        ou 1 [(gd l3 0)]) [(.str ((r1.s ++ ([32] : List UInt8)) ++ r2.s)), (.int 0)]).bind fun o3 =>
  sel2 o3.1 (ou 0 [(gd o3.2 0)]) fun _ => none
  else none
  else none) := by kernel_rfl
/-- loop.example/g00300/impl.AskedText -/
theorem q_impl_AskedText (a0 : D) : e_impl_AskedText.F [a0] = rn (
  ((e_impl_isClient.F [(a0.fld 0), (a0.fld 1)]).bind fun r1 =>
    if (!r1.b) then
      ou 0 [(.bool true)]
    else
      (e_impl_areChanges.F [(a0.fld 2)]).bind fun r2 =>
      ou 0 [(.bool (!r2.b))]).bind fun o1 =>
  sel2 o1.1 (if (gd o1.2 0).b then
      ou 0 [(.pair (D.str []) (.pair (.bool false) .unit))]
    else
      (e_impl_askedText.F [a0]).bind fun r2 =>
      ou 0 [(.pair r2 (.pair (.bool true) .unit))]) fun _ => none) := by kernel_rfl
/-- loop.example/g00300/laws.eqRecord -/
theorem q_laws_eqRecord (a0 a1 : D) : e_laws_eqRecord.F [a0, a1] = rn (
  if (!((a0.fld 0).s == (a1.fld 0).s)) then
    ou 0 [(.bool false)]
  else
    if ((a0.fld 1).i != (a1.fld 1).i) then
      ou 0 [(.bool false)]
    else
      if ((a0.fld 2).i != (a1.fld 2).i) then
        ou 0 [(.bool false)]
      else
        if (!((a0.fld 3).s == (a1.fld 3).s)) then
          ou 0 [(.bool false)]
        else
          ou 0 [(.bool true)]) := by kernel_rfl
/-- loop.example/g00300/laws.eqChange -/
theorem q_laws_eqChange (a0 a1 : D) : e_laws_eqChange.F [a0, a1] = rn (
  if ((a0.fld 0).i != (a1.fld 0).i) then
    ou 0 [(.bool false)]
  else
    (e_laws_eqRecord.F [(a0.fld 1), (a1.fld 1)]).bind fun r2 =>
    if (!r2.b) then
      ou 0 [(.bool false)]
    else
      ou 0 [(.bool true)]) := by kernel_rfl
/-- loop.example/g00300/laws.eqChangeS -/
theorem q_laws_eqChangeS (a0 a1 : D) : e_laws_eqChangeS.F [a0, a1] = rn (
  if ((a0.l.length : Int) != (a1.l.length : Int)) then
    ou 0 [(.bool false)]
  else
    (loopF (fun l2 =>
        if (decide ((gd l2 0).i < (a0.l.length : Int))) then
          if (inb (gd l2 0).i a0.l.length) then
          if (inb (gd l2 0).i a1.l.length) then
          (e_laws_eqChange.F [(gd a0.l (gd l2 0).i.toNat), (gd a1.l (gd l2 0).i.toNat)]).bind fun r3 =>
          if (!r3.b) then
            ou 1 []
          else
            ou 0 [(.int (IntKind.wrap .i64 ((gd l2 0).i + 1)))]
          else none
          else none
        else
          ou 2 []) [(.int 0)]).bind fun o2 =>
    sel2 o2.1 (ou 0 [(.bool false)]) fun n4 =>
    sel2 n4 (ou 0 [(.bool true)]) fun _ => none) := by kernel_rfl
/-- loop.example/g00300/laws.eqAsked -/
theorem q_laws_eqAsked (a0 a1 : D) : e_laws_eqAsked.F [a0, a1] = rn (
  if ((a0.fld 0).i != (a1.fld 0).i) then
    ou 0 [(.bool false)]
  else
    if ((a0.fld 1).i != (a1.fld 1).i) then
      ou 0 [(.bool false)]
    else
      (e_laws_eqChangeS.F [(a0.fld 2), (a1.fld 2)]).bind fun r2 =>
      if (!r2.b) then
        ou 0 [(.bool false)]
      else
        ou 0 [(.bool true)]) := by kernel_rfl
/-- loop.example/g00300/laws.FnExactAskedText -/
theorem q_laws_FnExactAskedText (a0 : D) : e_laws_FnExactAskedText.F [a0] = rn (
  (e_laws_szAsked.F [a0, (.int 1048576)]).bind fun r1 =>
  if (decide (r1.i < 0)) then
    ou 0 [(.bool true)]
  else
    (e_laws_toAsked.F [a0]).bind fun r2 =>
    (e_spec_AskedText.F [r2]).bind fun r3 =>
    (e_laws_toAsked.F [a0]).bind fun r4 =>
    (e_impl_AskedText.F [r4]).bind fun r5 =>
    (if (!((r5.fld 0).s == (r3.fld 0).s)) then
        ou 0 [(.bool true)]
      else
        ou 0 [(.bool (!((r5.fld 1).b == (r3.fld 1).b)))]).bind fun o6 =>
    sel2 o6.1 (if (gd o6.2 0).b then
        ou 0 [(.bool false)]
      else
        (e_laws_toAsked.F [a0]).bind fun r7 =>
        (e_laws_eqAsked.F [r4, r7]).bind fun r8 =>
        if (!r8.b) then
          ou 0 [(.bool false)]
        else
          ou 0 [(.bool true)]) fun _ => none) := by kernel_rfl
end Go.Proofs.YtclddfdojnfpeaaGreatDoor
