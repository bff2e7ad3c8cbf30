/- A layer over the walk: what lies in memory as plain data, each operation by what it does to data; part 8. -/
import Derived.Test.YtajcjfickmmjcaaOwG
set_option linter.unusedVariables false
set_option linter.unusedSimpArgs false
namespace Go.Own
noncomputable section
variable (Γ : Env)

@[simp] def opLen (dst : Option Nat) (t : TypeId) (x : Operand) : A := opd x fun a => match a with
  | .val .str d => .need (Γ.ty t = .str) (out Γ dst (.val (.int .i64) (.int d.s.length)))
  | .val (.lst _ _) d => .need ((Γ.ty t).lsts = true) (out Γ dst (.val (.int .i64) (.int d.l.length)))
  | .ref r v p (.lst true e) _ => rootOf r fun cr tr dr _ =>
      .need (liveRef v cr.v (depth p) ∧ tr.at p = .lst true e ∧ Ok tr dr p ∧ (Γ.ty t).lsts = true) (out Γ dst (.val (.int .i64) (.int (dr.get p).l.length)))
  | .win r v p e lo n => rootOf r fun cr tr dr _ =>
      .need (liveRef v cr.v (depth p) ∧ tr.at p = .lst true e ∧ Ok tr dr p ∧ (Γ.ty t).lsts = true ∧ n ≤ smax) (out Γ dst (.val (.int .i64) (.int n)))
  | .nil => .need ((Γ.ty t).lsts = true) (out Γ dst (.val (.int .i64) (.int 0)))
  | _ => .fail

def byteAt (s : List UInt8) (i : Nat) : Nat := (s.getD i 0).toNat

@[simp] def opIndex (dst : Option Nat) (t : TypeId) (x y : Operand) : A := opd x fun a => opd y fun b => match a, b with
  | .val .str d, .val (.int _) n => .need (Γ.ty t = .str ∧ 0 ≤ n.i ∧ n.i < d.s.length) (out Γ dst (.val (.int .u8) (.int (byteAt d.s n.i.toNat))))
  | _, _ => .fail

@[simp] def opNil (dst : Option Nat) (x : Operand) : A := opd x fun a => match a with
  | .ptr r v p => rootOf r fun cr tr dr bx => .need (livePtr v cr.v (depth p) ∧ Ok tr dr p ∧ (bx = true ∨ depth p ≠ 0)) (out Γ dst (.ptr r cr.v p))
  | .val (.ptr e) d => out Γ dst (.val (.ptr e) d)
  | _ => .fail

@[simp] def opPick (dst : Option Nat) (c x y : Operand) : A := opd c fun c => opd x fun a => opd y fun b => match c, a, b with
  | .val .bool d, .val t d1, .val u d2 => if t = u then out Γ dst (.val t (if d.b then d1 else d2)) else if d.b then out Γ dst (.val t d1) else out Γ dst (.val u d2)
  | .val .bool d, a, b => if d.b then out Γ dst a else out Γ dst b
  | _, _, _ => .fail

@[simp] def opUn (dst : Option Nat) (op : UnOp) (x : Operand) : A := opd x fun a => match op, a with
  | .not, .val .bool d => out Γ dst (.val .bool (.bool !d.b))
  | .neg, .val (.int k) d => out Γ dst (.val (.int k) (.int (k.wrap (0 - d.i))))
  | _, _ => .fail

/-- whole numbers: what is needed, what comes -/
@[simp] def binInt (op : BinOp) (k : IntKind) (x y : Int) : Option (Prop × T × D) :=
  match op with
  | .add => some (True, .int k, .int (k.wrap (x + y)))
  | .sub => some (True, .int k, .int (k.wrap (x - y)))
  | .mul => some (True, .int k, .int (k.wrap (x * y)))
  | .quo => some (y ≠ 0, .int k, .int (k.wrap (x.tdiv y)))
  | .rem => some (y ≠ 0, .int k, .int (x.tmod y))
  | .and => some (True, .int k, .int (k.wrap ((BitVec.ofInt k.bits x &&& BitVec.ofInt k.bits y).toNat)))
  | .or => some (True, .int k, .int (k.wrap ((BitVec.ofInt k.bits x ||| BitVec.ofInt k.bits y).toNat)))
  | .xor => some (True, .int k, .int (k.wrap ((BitVec.ofInt k.bits x ^^^ BitVec.ofInt k.bits y).toNat)))
  | .andNot => some (True, .int k, .int (k.wrap ((BitVec.ofInt k.bits x &&& ~~~BitVec.ofInt k.bits y).toNat)))
  | .eql => some (True, .bool, .bool (x == y))
  | .neq => some (True, .bool, .bool (x != y))
  | .lss => some (True, .bool, .bool (x < y))
  | .leq => some (True, .bool, .bool (x ≤ y))
  | .gtr => some (True, .bool, .bool (x > y))
  | .geq => some (True, .bool, .bool (x ≥ y))
  | _ => none

@[simp] def binStr (op : BinOp) (x y : List UInt8) : Option (Prop × T × D) :=
  match op with
  | .add => some (x.length + y.length ≤ smax, .str, .str (x ++ y))
  | .eql => some (True, .bool, .bool (x == y))
  | .neq => some (True, .bool, .bool !(x == y))
  | .lss => some (True, .bool, .bool (Op.bytesLess x y))
  | .leq => some (True, .bool, .bool (Op.bytesLess x y || x == y))
  | .gtr => some (True, .bool, .bool !(Op.bytesLess x y || x == y))
  | .geq => some (True, .bool, .bool !(Op.bytesLess x y))
  | _ => none

@[simp] def opBin (dst : Option Nat) (op : BinOp) (t : TypeId) (x y : Operand) : A := opd x fun a => opd y fun b => match a, b with
  | .val (.int k) m, .val (.int k') n =>
    if op = .shl then .need (0 ≤ n.i) (out Γ dst (.val (.int k) (.int (k.wrap (m.i * 2 ^ min n.i.toNat k.bits)))))
    else if op = .shr then .need (0 ≤ n.i) (out Γ dst (.val (.int k) (.int (m.i.fdiv (2 ^ min n.i.toNat k.bits)))))
    else .need (k = k') (match binInt op k m.i n.i with
      | some (p, t, d) => .need p (out Γ dst (.val t d))
      | none => .fail)
  | .val .str m, .val .str n => match binStr op m.s n.s with
      | some (p, t, d) => .need p (out Γ dst (.val t d))
      | none => .fail
  | .val .bool m, .val .bool n => match op with
      | .eql => .need (Γ.ty t = .bool) (out Γ dst (.val .bool (.bool (m.b == n.b))))
      | .neq => .need (Γ.ty t = .bool) (out Γ dst (.val .bool (.bool !(m.b == n.b))))
      | _ => .fail
  | .val (.lst _ _) d, .nil => match op with
      | .eql => .need ((Γ.ty t).lsts = true) (.two (d.l = []) fun b => out Γ dst (.val .bool (.bool b)))
      | .neq => .need ((Γ.ty t).lsts = true) (.two (d.l = []) fun b => out Γ dst (.val .bool (.bool !b)))
      | _ => .fail
  | _, _ => .fail

@[simp] def opExtract (dst : Option Nat) (x : Operand) (j : Nat) : A :=
  match x, dst with
  | .tmp t, some s => .ask t fun c => match c.av with
    | .tup ty d => .need (ty.has j = true) (if (ty.fld j).plain then out Γ (some s) (.val (ty.fld j) (d.fld j))
        else .ask s fun c' => .need (s < Γ.n ∧ s ∉ Γ.fx ∧ t ≠ s) (.ret [(t, ⟨.tup (ty.set [.f j] (ty.fld j).moved) d, c.v.kill⟩), (s, ⟨.val (ty.fld j) (d.fld j), c'.v.kill⟩)]))
    | _ => .fail
  | _, _ => .fail

end
end Go.Own
