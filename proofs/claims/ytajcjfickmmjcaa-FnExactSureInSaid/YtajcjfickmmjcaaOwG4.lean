/- A layer over the walk: what lies in memory as plain data, each operation by what it does to data; part 10. -/
import Derived.Test.YtajcjfickmmjcaaOwG3
set_option linter.unusedVariables false
set_option linter.unusedSimpArgs false
namespace Go.Own
noncomputable section
variable (Γ : Env)

@[simp] def opMakeSlice (dst : Option Nat) (t : TypeId) (x y : Operand) : A := opd x fun a => opd y fun b => match a, b with
  | .val (.int _) m, .val (.int _) n =>
    .need (m.i = n.i ∧ 0 ≤ n.i ∧ (Γ.ty t).lsts = true ∧ n.i.toNat ≤ smax ∧ n.i.toNat * Γ.eb t ≤ 140737488355328)
      ((out Γ dst (.val (.lst true (Γ.ty t).elem) (.lst (List.replicate n.i.toNat (Γ.ty t).elem.zero)))))
  | _, _ => .fail

def bytesStr (l : List D) : List UInt8 := l.map fun d => UInt8.ofNat d.i.toNat

@[simp] def opConv (dst : Option Nat) (src tgt : TypeId) (x : Operand) : A := opd x fun a => match a with
  | .val (.int _) d => match Γ.ty tgt with
    | .int k => .need ((Γ.ty src).ok = true) (out Γ dst (.val (.int k) (.int (k.wrap d.i))))
    | _ => .fail
  | .val (.lst false (.int .u8)) d => .need (Γ.ty src = .lst true (.int .u8) ∧ Γ.ty tgt = .str) (out Γ dst (.val .str (.str (bytesStr d.l))))
  | .ref r v p (.lst true (.int .u8)) _ => rootOf r fun cr tr dr _ =>
      .need (liveRef v cr.v (depth p) ∧ tr.at p = .lst true (.int .u8) ∧ Ok tr dr p ∧ Γ.ty src = .lst true (.int .u8) ∧ Γ.ty tgt = .str) (out Γ dst (.val .str (.str (bytesStr (dr.get p).l))))
  | _ => .fail

end
end Go.Own
