/- A layer over the walk: what lies in memory as plain data, each operation by what it does to data; part 11. -/
import Derived.Test.YtajcjfickmmjcaaOwG4
set_option linter.unusedVariables false
set_option linter.unusedSimpArgs false
namespace Go.Own
noncomputable section
variable (Γ : Env)

/-- a place that is handed on to be written: its root, the path, what lies at the root -/
structure Io where
  r : Nat
  p : Path
  c : Cl
  t : T
  d : D

/-- what a closure has caught is lent -/
@[simp] def evalCaps : List Cap → (T → D → List Nat → A) → A
  | [], k => k .unit .unit []
  | .val t d :: l, k => evalCaps l fun T' D' br => k (.pair t T') (.pair d D') br
  | .ptr r v p :: l, k => rootOf r fun cr tr dr bx => .need (livePtr v cr.v (depth p) ∧ Ok tr dr p ∧ (bx = true ∨ depth p ≠ 0)) (evalCaps l fun T' D' br => k (.pair (.ptr (tr.at p).view) T') (.pair (dr.get p) D') (r :: br))

@[simp] def evalArg (m : Mode) (ty : TypeId) (x : Operand) (k : Arg → List Nat → Option Io → A) : A := opd x fun a =>
  match m with
  | .vw => match a with
    | .val t d => k ⟨.vw, t, d⟩ [] none
    | .ref r v p t d => rootOf r fun cr tr dr _ => .need (liveRef v cr.v (depth p) ∧ tr.at p = t ∧ Ok tr dr p) (k ⟨.vw, t.view, D.mix t d (dr.get p)⟩ [r] none)
    | .nil => match Γ.ty ty with
      | .lst _ e => k ⟨.vw, .lst false e.view, .lst []⟩ [] none
      | _ => .fail
    | .clo f l => evalCaps l fun T' D' br => k ⟨.vw, .fn f T', D'⟩ br none
    | _ => .fail
  | .io => match a with
    | .ref r v p t d => rootOf r fun cr tr dr _ => .need (liveRef v cr.v (depth p) ∧ tr.at p = t ∧ Ok tr dr p) (k ⟨.io, t, D.mix t d (dr.get p)⟩ [] (some ⟨r, p, cr, tr, dr⟩))
    | _ => .fail
  | .iop => match a with
    | .ptr r v [] => rootOf r fun cr tr dr bx => .need (livePtr v cr.v 0 ∧ bx = true) (k ⟨.iop, tr, dr⟩ [] (some ⟨r, [], cr, tr, dr⟩))
    | _ => .fail
  | .own => .fail

/-- the arguments, one behind the other; one at most is written -/
@[simp] def evalArgs : List (Mode × TypeId × Operand) → List Arg → List Nat → Option (Nat × Io) → (List Arg → List Nat → Option (Nat × Io) → A) → A
  | [], as, br, io, k => k as br io
  | (m, ty, x) :: xs, as, br, io, k => evalArg Γ m ty x fun a b i => match i with
    | none => evalArgs xs (as ++ [a]) (br ++ b) io k
    | some i => match io with
      | none => evalArgs xs (as ++ [a]) (br ++ b) (some (as.length, i)) k
      | some _ => .fail

/-- the call itself -/
@[simp] def callA (s : Nat) (g : FuncId) (v : Ver) (as : List Arg) (br : List Nat) (io : Option (Nat × Io)) : A := match io with
    | none => .call g as [s] (!br.isEmpty) fun res _ => [(s, ⟨res.av, v.kill⟩)]
    | some (j, i) => .need (i.r ∉ br ∧ i.r ≠ s ∧ (br = [] ∨ (as.getD j default).t.noview = true)) (.call g as [i.r, s] (!br.isEmpty) fun res outs =>
        [(i.r, if (as.getD j default).m = .iop then i.c.setRoot i.t (outs.getD j .unit) i.c.v.head
            else i.c.setRoot i.t (i.d.set i.p (D.mixR (i.t.at i.p) (i.d.get i.p) (outs.getD j .unit))) i.c.v.cont), (s, ⟨res.av, v.kill⟩)])

@[simp] def opCall (dst : Option Nat) (g : FuncId) (xs : List (Mode × TypeId × Operand)) : A :=
  match dst with
  | none => .fail
  | some s => .ask s fun cd => .need (s < Γ.n ∧ s ∉ Γ.fx) (evalArgs Γ xs [] [] none fun as br io => callA s g cd.v as br io)

/-- what a closure hands on besides -/
@[simp] def capArgs : T → D → List Arg
  | .pair t T', d => ⟨.vw, t, d.fst⟩ :: capArgs T' d.snd
  | _, _ => []
@[simp] def capsOk : T → Bool
  | .pair t T' => !t.agg && capsOk T'
  | .unit => true
  | _ => false

/-- a function value is called -/
@[simp] def opCallV (dst : Option Nat) (q : Nat) (xs : List (TypeId × Operand)) : A :=
  match dst with
  | none => .fail
  | some s => .ask s fun cd => .need (s < Γ.n ∧ s ∉ Γ.fx) (evalArgs Γ (xs.map fun x => (.vw, x.1, x.2)) [] [] none fun as br io => match io with
    | some _ => .fail
    | none => .ask q fun c => match c.av with
      | .val (.fn f T') d => .need (capsOk T' = true) (callA s f cd.v (as ++ capArgs T' d) br none)
      | _ => .fail)

@[simp] def capsOf : List Operand → (List Cap → A) → A
  | [], k => k []
  | x :: xs, k => opd x fun a => match a with
    | .val t d => .need (t.plain = true ∧ t.agg = false) (capsOf xs fun l => k (.val t d :: l))
    | .ptr r v p => capsOf xs fun l => k (.ptr r v p :: l)
    | _ => .fail

/-- a closure is made -/
@[simp] def opMakeFunc (dst : Option Nat) (f : FuncId) (caps : List Operand) : A := capsOf caps fun l => out Γ dst (.clo f l)

end
end Go.Own
