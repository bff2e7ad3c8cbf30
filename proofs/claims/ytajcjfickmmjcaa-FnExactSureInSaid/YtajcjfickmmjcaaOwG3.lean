/- A layer over the walk: what lies in memory as plain data, each operation by what it does to data; part 9. -/
import Derived.Test.YtajcjfickmmjcaaOwG2
set_option linter.unusedVariables false
set_option linter.unusedSimpArgs false
namespace Go.Own
noncomputable section
variable (Γ : Env)

@[simp] def opAlloc (dst : Option Nat) (t : TypeId) : A := .need ((Γ.ty t).ok = true) (out Γ dst (.box (Γ.ty t) (Γ.ty t).zero))

@[simp] def opBox (dst : Option Nat) (t : TypeId) (x : Operand) : A :=
  match dst with
  | none => .fail
  | some d => .ask d fun cd => .need (d < Γ.n ∧ d ∉ Γ.fx ∧ (Γ.ty t).ok = true) (match x with
    | .tmp s => .ask s fun c => match c.av with
      | .val ty dd => .need (ty.view = (Γ.ty t).view ∧ s ≠ d)
          (if ty.plain then .ret [(d, ⟨.box ty dd, cd.v.kill⟩)] else .ret [(s, ⟨.undef, c.v.kill⟩), (d, ⟨.box ty dd, cd.v.kill⟩), (s, ⟨.ref d cd.v.kill [] ty dd, c.v.kill.kill⟩)])
      | _ => take (Γ.ty t) x fun ty dd ws => .need (ty.view = (Γ.ty t).view ∧ d ∉ ws.map (·.1)) (.ret (ws ++ [(d, ⟨.box ty dd, cd.v.kill⟩)]))
    | _ => take (Γ.ty t) x fun ty dd ws => .need (ty.view = (Γ.ty t).view ∧ d ∉ ws.map (·.1)) (.ret (ws ++ [(d, ⟨.box ty dd, cd.v.kill⟩)])))

/-- parts, one behind the other -/
@[simp] def takes (T0 : T) : List (Nat × Operand) → T → D → Wr → (T → D → Wr → A) → A
  | [], t, d, ws, k => k t d ws
  | (j, x) :: ps, t, d, ws, k => takeW ws (T0.fld j) x fun ty dd ws' =>
      .need (T0.has j = true ∧ ty.view = (T0.fld j).view ∧ (T0.fld j).sound = true) (takes T0 ps (t.setFld j ty) (d.setFld j dd) (ws ++ ws') k)

@[simp] def opBuild (dst : Option Nat) (t : TypeId) (parts : List (Nat × Operand)) : A :=
  match dst with
  | none => .fail
  | some d => .ask d fun cd => .need (d < Γ.n ∧ d ∉ Γ.fx ∧ (Γ.ty t).agg = true) (takes (Γ.ty t) parts (Γ.ty t) (Γ.ty t).zero [] fun ty dd ws =>
      .need (d ∉ ws.map (·.1)) (.ret (ws ++ [(d, ⟨.val ty dd, cd.v.kill⟩)])))

/-- elements, one behind the other, of one kind: the first one's -/
@[simp] def takeEls (e0 : T) : List (Nat × Operand) → Nat → Option T → List D → Wr → (T → List D → Wr → A) → A
  | [], _, e, xs, ws, k => k (e.getD e0) xs ws
  | (j, x) :: ps, i, e, xs, ws, k => takeW ws e0 x fun ty dd ws' =>
      .need (j = i ∧ (∀ u, e = some u → ty = u) ∧ ty.view = e0.view) (takeEls e0 ps (i + 1) (some ty) (xs ++ [dd]) (ws ++ ws') k)

@[simp] def opBuildSlice (dst : Option Nat) (t : TypeId) (len : Nat) (parts : List (Nat × Operand)) : A :=
  match dst with
  | none => .fail
  | some d => .ask d fun cd => .need (d < Γ.n ∧ d ∉ Γ.fx ∧ (Γ.ty t).lsts = true ∧ len = parts.length ∧ (Γ.ty t).elem.size ≠ 0 ∧ len * (Γ.ty t).elem.size ≤ 2 ^ 24 ∧ len ≤ smax) (takeEls (Γ.ty t).elem parts 0 none [] [] fun e xs ws =>
      .need (d ∉ ws.map (·.1)) (.ret (ws ++ [(d, ⟨.val (.lst true e) (.lst xs), cd.v.kill⟩)])))

end
end Go.Own
