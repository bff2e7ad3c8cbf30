/- A layer over the walk: what lies in memory as plain data, each operation by what it does to data; part 30. -/
import Derived.Test.YtajcjfickmmjcaaOwY
set_option linter.unusedVariables false
set_option linter.unusedSimpArgs false
namespace Go.Own
open Go

@[simp] def zip3 : List Mode → List TypeId → List Operand → List (Mode × TypeId × Operand)
  | m :: ms, t :: ts, x :: xs => (m, t, x) :: zip3 ms ts xs
  | _, _, _ => []

/-- one operation -/
@[simp] def opA (Γ : Env) (o : Oper) : A :=
  match o.op with
  | .move x => opMove Γ o.dst x
  | .assign x => opAssign Γ o.dst o.type x
  | .pick c a b => opPick Γ o.dst c a b
  | .alloc t => opAlloc Γ o.dst t
  | .box t x => opBox Γ o.dst t x
  | .build t ps => opBuild Γ o.dst t ps.toList
  | .buildSlice t n ps => opBuildSlice Γ o.dst t n ps.toList
  | .load t x => opLoad Γ o.dst t x
  | .store t x y => match o.dst with
    | none => opStore Γ t x y
    | some _ => .fail
  | .nilCheck x => opNil Γ o.dst x
  | .binOp op t x y _ => opBin Γ o.dst op t x y
  | .unOp op _ x => opUn Γ o.dst op x
  | .convert s t x => opConv Γ o.dst s t x
  | .makeSlice t l c => opMakeSlice Γ o.dst t l c
  | .fieldAddr t x j => opFieldAddr Γ o.dst t x j
  | .field t x j => opField Γ o.dst t x j
  | .indexAddr t x i => opIndexAddr Γ o.dst t x i
  | .index t x i => opIndex Γ o.dst t x i
  | .extract x j => opExtract Γ o.dst x j
  | .call c => match c.callee with
    | .builtin .len => match c.args.toList, c.argTypes.toList with
      | [x], t :: _ => opLen Γ o.dst t x
      | _, _ => .fail
    | .value (.func g) => .need ((Γ.sig g).length = c.args.size ∧ c.argTypes.size = c.args.size) (opCall Γ o.dst g (zip3 (Γ.sig g) c.argTypes.toList c.args.toList))
    | _ => .fail
  | _ => .fail

theorem zip3_snd : ∀ {ms : List Mode} {ts : List TypeId} {xs : List Operand}, ms.length = xs.length → ts.length = xs.length → (zip3 ms ts xs).map (fun x => x.2.2) = xs
  | [], [], [], _, _ => rfl
  | m :: ms, t :: ts, x :: xs, h1, h2 => by simp at h1 h2; simp [zip3_snd h1 h2]
  | [], _, _ :: _, h, _ => by simp at h
  | _, [], _ :: _, _, h => by simp at h
  | _ :: _, _, [], h, _ => by simp at h
  | _, _ :: _, [], _, h => by simp at h

variable {P : Program} {Γ : Env} {E : Entry} {S : St} {act : Act} {w : World} {Kt : Wr → Prop} {next : Act → World → Prop} {Q : Exit → Act → World → Prop}

theorem value_wp {o : Oper} {s : Sem Value} {w' : World} (he : execOp act.eval o = (do pure (.value (← s)))) (h : ∃ v, s.run P w = .ok v w' ∧ next (act.put o.dst v) w') : o.wp P act w next Q := by
  obtain ⟨v, h1, h2⟩ := h
  unfold Oper.wp
  rw [he, Sem.run_bind, h1]
  exact h2

theorem value_wp' {o : Oper} {s : Sem Value} (he : execOp act.eval o = (do pure (.value (← s)))) (h : ∃ v w', s.run P w = .ok v w' ∧ next (act.put o.dst v) w') : o.wp P act w next Q := by
  obtain ⟨v, w', h1, h2⟩ := h
  exact value_wp he ⟨v, h1, h2⟩

theorem op_sound (ok : EnvOk P Γ) {o : Oper} (h : (opA Γ o).wp (VX P) S Kt) (hi : Inv Γ E S act w) (hn : Next' Γ E S Kt next) : o.wp P act w next Q := by
  obtain ⟨dst, op, ty, pos, aft, grd⟩ := o
  cases op with
  | move x =>
    show next _ _
    exact move_sound h hi hn
  | assign x =>
    show next _ _
    exact assign_sound h hi hn
  | pick c x y =>
    obtain ⟨b, h1, h2⟩ := pick_sound h hi hn
    unfold Oper.wp
    simp only [execOp, h1, asBool]
    exact h2
  | alloc t => exact value_wp' rfl (alloc_sound ok h hi hn)
  | box t x => exact value_wp' rfl (box_sound ok h hi hn)
  | build t ps => exact value_wp rfl (build_sound ok h hi hn)
  | buildSlice t n ps => exact value_wp' rfl (buildSlice_sound ok h hi hn)
  | load t x => exact value_wp rfl (load_sound ok h hi hn)
  | store t x y =>
    cases dst with
    | some _ => exact h.elim
    | none =>
      obtain ⟨w', h1, h2⟩ := store_sound ok h hi hn
      unfold Oper.wp
      simp only [execOp, Sem.run_bind, h1, Result.andThen_ok]
      exact h2
  | nilCheck x =>
    obtain ⟨⟨a, h1⟩, h2⟩ := nil_sound h hi hn
    unfold Oper.wp
    simp only [execOp, h1]
    rw [h1] at h2
    exact h2
  | binOp op t x y u => exact value_wp rfl (bin_sound ok h hi hn)
  | unOp op t x => exact value_wp rfl (un_sound h hi hn)
  | convert s t x => exact value_wp rfl (conv_sound ok h hi hn)
  | makeSlice t l c => exact value_wp' rfl (makeSlice_sound ok h hi hn)
  | fieldAddr t x j => exact value_wp rfl (fieldAddr_sound ok h hi hn)
  | field t x j => exact value_wp rfl (field_sound ok h hi hn)
  | indexAddr t x i => exact value_wp rfl (indexAddr_sound ok h hi hn)
  | index t x i => exact value_wp rfl (index_sound ok h hi hn)
  | extract x j => exact value_wp rfl (extract_sound h hi hn)
  | call c =>
    obtain ⟨callee, args, ats⟩ := c
    simp only [opA] at h
    split at h
    · split at h
      · rename_i x t ts hx ht
        have hx' : args = #[x] := by rw [← Array.toArray_toList (xs := args), hx]
        have ht' : ats[0]? = some t := by rw [← Array.getElem?_toList, ht]; rfl
        subst hx'
        obtain ⟨v, h1, h2⟩ := len_sound ok ht' h hi hn (ats := ats) (ty := ty)
        unfold Oper.wp
        simp only [execOp, resolve, Sem.run_bind, Sem.run_pure, Result.andThen_ok, invoke, builtin, List.map_toArray, List.map_cons, List.map_nil, h1]
        exact h2
      · exact h.elim
    · rename_i g
      simp only [A.wp] at h
      obtain ⟨⟨h1, h2⟩, h⟩ := h
      obtain ⟨⟨fn, hf, hng, hbd⟩, hcall⟩ := call_sound h hi hn
      have hxs : ((zip3 (Γ.sig g) ats.toList args.toList).map fun x => act.eval x.2.2).toArray = args.map act.eval := by
        have := zip3_snd (ms := Γ.sig g) (ts := ats.toList) (xs := args.toList) (by simpa using h1) (by simpa using h2)
        rw [show (fun x : Mode × TypeId × Operand => act.eval x.2.2) = act.eval ∘ (fun x => x.2.2) from rfl, ← List.map_map, this, ← Array.toList_map, Array.toArray_toList]
      rw [hxs] at hcall
      unfold Oper.wp
      have hex : (execOp act.eval { dst := dst, op := Op.call { callee := Callee.value (Operand.func g), args := args, argTypes := ats }, type := ty, pos := pos, after := aft, guard := grd }).run P w = .ok (.enter g (args.map act.eval)) w := by
        simp only [execOp, resolve, Act.eval, Deferred.ofValue, Sem.run_bind, Sem.run_pure, Result.andThen_ok, invoke, callFunc, Array.append_empty, Array.empty_append]
        rw [show (program.run P w) = .ok P w from rfl]
        simp only [Result.andThen_ok, hf, hng, hbd, if_false, Bool.false_eq_true]
        rfl
      rw [hex, Oper.upon_enter]
      refine Calls.mono hcall ?_
      rintro e w' ⟨v, rfl, hv⟩
      exact hv
    · exact h.elim
  | _ => exact h.elim

end Go.Own
