/- A layer over the walk: what lies in memory as plain data, each operation by what it does to data; part 11. -/
import Derived.Test.YtajcjfickmmjcaaOwG4
set_option linter.unusedVariables false
set_option linter.unusedSimpArgs false
namespace Go.Own
variable (Γ : Env)

/-- a place that is handed on to be written: its root, the path, what lies at the root -/
structure Io where
  r : Nat
  p : Path
  c : Cl
  t : T
  d : D

@[simp] def evalArg (m : Mode) (ty : TypeId) (x : Operand) (k : Arg → List Nat → Option Io → A) : A := opd x fun a =>
  match m with
  | .vw => match a with
    | .val t d => k ⟨.vw, t, d⟩ [] none
    | .ref r v p t d => rootOf r fun cr tr dr _ => .need (liveRef v cr.v (depth p) ∧ tr.at p = t ∧ Ok tr dr p) (k ⟨.vw, t.view, D.mix t d (dr.get p)⟩ [r] none)
    | .nil => match Γ.ty ty with
      | .lst _ e => k ⟨.vw, .lst false e.view, .lst []⟩ [] none
      | _ => .fail
    | _ => .fail
  | .io => match a with
    | .ref r v p t d => rootOf r fun cr tr dr _ => .need (liveRef v cr.v (depth p) ∧ tr.at p = t ∧ Ok tr dr p) (k ⟨.io, t, D.mix t d (dr.get p)⟩ [] (some ⟨r, p, cr, tr, dr⟩))
    | _ => .fail
  | .iop => match a with
    | .ptr r v [] => rootOf r fun cr tr dr bx => .need (livePtr v cr.v 0 ∧ bx = true) (k ⟨.iop, tr, dr⟩ [] (some ⟨r, [], cr, tr, dr⟩))
    | _ => .fail
  | .own => .fail

/-- the arguments, one behind the other; one at most is written -/
@[simp] def evalArgs : List (Mode × TypeId × Operand) → List Arg → List Nat → Option (Nat × Io) → (List Arg → List Nat → Option (Nat × Io) → A) → A
  | [], as, br, io, k => k as br io
  | (m, ty, x) :: xs, as, br, io, k => evalArg Γ m ty x fun a b i => match i with
    | none => evalArgs xs (as ++ [a]) (br ++ b) io k
    | some i => match io with
      | none => evalArgs xs (as ++ [a]) (br ++ b) (some (as.length, i)) k
      | some _ => .fail

@[simp] def opCall (dst : Option Nat) (g : FuncId) (xs : List (Mode × TypeId × Operand)) : A :=
  match dst with
  | none => .fail
  | some s => .ask s fun cd => .need (s < Γ.n ∧ s ∉ Γ.fx) (evalArgs Γ xs [] [] none fun as br io => match io with
    | none => .call g as [s] (!br.isEmpty) fun res _ => [(s, ⟨res.av, cd.v.kill⟩)]
    | some (j, i) => .need (i.r ∉ br ∧ i.r ≠ s ∧ (br = [] ∨ (as.getD j default).t.noview = true)) (.call g as [i.r, s] (!br.isEmpty) fun res outs =>
        [(i.r, if (as.getD j default).m = .iop then i.c.setRoot i.t (outs.getD j .unit) i.c.v.head
            else i.c.setRoot i.t (i.d.set i.p (D.mix (i.t.at i.p) (i.d.get i.p) (outs.getD j .unit))) i.c.v.cont), (s, ⟨res.av, cd.v.kill⟩)]))

end Go.Own
