/- A layer over the walk: what lies in memory as plain data, each operation by what it does to data; part 33. -/
import Derived.Test.YtajcjfickmmjcaaOwY
set_option linter.unusedVariables false
set_option linter.unusedSimpArgs false
namespace Go.Own
noncomputable section
open Go

@[simp] def zip3 : List Mode → List TypeId → List Operand → List (Mode × TypeId × Operand)
  | m :: ms, t :: ts, x :: xs => (m, t, x) :: zip3 ms ts xs
  | _, _, _ => []

/-- one operation -/
@[simp] def opA (Γ : Env) (o : Oper) : A :=
  match o.op with
  | .move x => opMove Γ o.dst x
  | .assign x => opAssign Γ o.dst o.type x
  | .pick c a b => opPick Γ o.dst c a b
  | .alloc t => opAlloc Γ o.dst t
  | .box t x => opBox Γ o.dst t x
  | .build t ps => opBuild Γ o.dst t ps.toList
  | .buildSlice t n ps => opBuildSlice Γ o.dst t n ps.toList
  | .load t x => opLoad Γ o.dst t x
  | .store t x y => match o.dst with
    | none => opStore Γ t x y
    | some _ => .fail
  | .nilCheck x => opNil Γ o.dst x
  | .binOp op t x y _ => opBin Γ o.dst op t x y
  | .unOp op _ x => opUn Γ o.dst op x
  | .convert s t x => opConv Γ o.dst s t x
  | .makeSlice t l c => opMakeSlice Γ o.dst t l c
  | .fieldAddr t x j => opFieldAddr Γ o.dst t x j
  | .field t x j => opField Γ o.dst t x j
  | .indexAddr t x i => opIndexAddr Γ o.dst t x i
  | .index t x i => opIndex Γ o.dst t x i
  | .slice t x lo hi mx => opSlice Γ o.dst t x lo hi mx
  | .extract x j => opExtract Γ o.dst x j
  | .makeFunc fn first caps => match fn with
    | .func f => .need (first.size = 0) (opMakeFunc Γ o.dst f caps.toList)
    | _ => .fail
  | .call c => match c.callee with
    | .builtin .len => match c.args.toList, c.argTypes.toList with
      | [x], t :: _ => opLen Γ o.dst t x
      | _, _ => .fail
    | .builtin .append => match c.args.toList, c.argTypes.toList with
      | [x, y], [t, u] => opAppend Γ o.dst t u x y
      | _, _ => .fail
    | .builtin .min => opMinMax Γ false o.dst c.args.toList
    | .builtin .max => opMinMax Γ true o.dst c.args.toList
    | .value (.tmp q) => .need (c.argTypes.size = c.args.size) (opCallV Γ o.dst q (c.argTypes.toList.zip c.args.toList))
    | .value (.func g) => .need ((Γ.sig g).length = c.args.size ∧ c.argTypes.size = c.args.size) (opCall Γ o.dst g (zip3 (Γ.sig g) c.argTypes.toList c.args.toList))
    | _ => .fail
  | _ => .fail

theorem zip3_snd : ∀ {ms : List Mode} {ts : List TypeId} {xs : List Operand}, ms.length = xs.length → ts.length = xs.length → (zip3 ms ts xs).map (fun x => x.2.2) = xs
  | [], [], [], _, _ => rfl
  | m :: ms, t :: ts, x :: xs, h1, h2 => by simp at h1 h2; simp [zip3_snd h1 h2]
  | [], _, _ :: _, h, _ => by simp at h
  | _, [], _ :: _, _, h => by simp at h
  | _ :: _, _, [], h, _ => by simp at h
  | _, _ :: _, [], _, h => by simp at h

variable {P : Program} {Γ : Env} {E : Entry} {S : St} {act : Act} {w : World} {Kt : Wr → Prop} {next : Act → World → Prop} {Q : Exit → Act → World → Prop}

theorem value_wp {o : Oper} {s : Sem Value} {w' : World} (he : execOp act.eval o = (do pure (.value (← s)))) (h : ∃ v, s.run P w = .ok v w' ∧ next (act.put o.dst v) w') : o.wp P act w next Q := by
  obtain ⟨v, h1, h2⟩ := h
  unfold Oper.wp
  rw [he, Sem.run_bind, h1]
  exact h2

theorem value_wp' {o : Oper} {s : Sem Value} (he : execOp act.eval o = (do pure (.value (← s)))) (h : ∃ v w', s.run P w = .ok v w' ∧ next (act.put o.dst v) w') : o.wp P act w next Q := by
  obtain ⟨v, w', h1, h2⟩ := h
  exact value_wp he ⟨v, h1, h2⟩

theorem capsOf_sound {κ V} : ∀ (xs : List Operand) {k : List Cap → A}, (capsOf xs k).wp (VX P) S Kt → Conc w.heap (tmOf act) V S κ →
    ∃ l, (k l).wp (VX P) S Kt ∧ l.length = xs.length ∧ ∀ (i : Nat) (c : Cap), l[i]? = some c → ∃ u, (xs.map act.eval)[i]? = some u ∧ CapO w.heap V S κ u c
  | [], k, h, _ => ⟨[], h, rfl, by simp⟩
  | x :: xs, k, h, hc => by
    unfold capsOf at h
    obtain ⟨a, hk, ho⟩ := opd_sound h hc
    cases a with
    | val t d =>
      simp only [A.wp] at hk
      obtain ⟨⟨hp, ha⟩, hk⟩ := hk
      obtain ⟨l, h1, h2, h3⟩ := capsOf_sound xs hk hc
      refine ⟨_, h1, by simp [h2], fun i c hi => ?_⟩
      cases i with
      | zero =>
        simp at hi; subst hi
        obtain ⟨_, cs, hr, e⟩ := ho
        exact ⟨_, rfl, hp, ha, _, cs, hr, e⟩
      | succ i => exact h3 i c (by simpa using hi)
    | ptr r v p =>
      obtain ⟨l, h1, h2, h3⟩ := capsOf_sound xs hk hc
      refine ⟨_, h1, by simp [h2], fun i c hi => ?_⟩
      cases i with
      | zero =>
        simp at hi; subst hi
        exact ⟨_, rfl, ho⟩
      | succ i => exact h3 i c (by simpa using hi)
    | _ => exact hk.elim

theorem makeFunc_sound {dst : Option Nat} {f : FuncId} {caps : Array Operand} (h : (opMakeFunc Γ dst f caps.toList).wp (VX P) S Kt) (hi : Inv Γ E S act w) (hn : Next' Γ E S Kt next) :
    ∃ v, (Instr.makeFunc (.func f) (#[].map act.eval) (caps.map act.eval)).run P w = .ok v w ∧ next (act.put dst v) w := by
  obtain ⟨hf, κ, V, hc, hb⟩ := hi
  obtain ⟨l, h1, h2, h3⟩ := capsOf_sound caps.toList h hc
  refine ⟨_, rfl, out_sound h1 hf hc hb ⟨caps.map act.eval, by simp, by simp [h2], fun i c hc => ?_⟩ hn⟩
  obtain ⟨u, hu, hcc⟩ := h3 i c hc
  exact ⟨u, by simpa using hu, hcc⟩

theorem op_sound (ok : EnvOk P Γ) {o : Oper} (h : (opA Γ o).wp (VX P) S Kt) (hi : Inv Γ E S act w) (hn : Next' Γ E S Kt next) : o.wp P act w next Q := by
  obtain ⟨dst, op, ty, pos, aft, grd⟩ := o
  cases op with
  | move x =>
    show next _ _
    exact move_sound h hi hn
  | assign x =>
    show next _ _
    exact assign_sound h hi hn
  | pick c x y =>
    obtain ⟨b, h1, h2⟩ := pick_sound h hi hn
    unfold Oper.wp
    simp only [execOp, h1, asBool]
    exact h2
  | alloc t => exact value_wp' rfl (alloc_sound ok h hi hn)
  | box t x => exact value_wp' rfl (box_sound ok h hi hn)
  | build t ps => exact value_wp rfl (build_sound ok h hi hn)
  | buildSlice t n ps => exact value_wp' rfl (buildSlice_sound ok h hi hn)
  | load t x => exact value_wp rfl (load_sound ok h hi hn)
  | store t x y =>
    cases dst with
    | some _ => exact h.elim
    | none =>
      obtain ⟨w', h1, h2⟩ := store_sound ok h hi hn
      unfold Oper.wp
      simp only [execOp, Sem.run_bind, h1, Result.andThen_ok]
      exact h2
  | nilCheck x =>
    obtain ⟨⟨a, h1⟩, h2⟩ := nil_sound h hi hn
    unfold Oper.wp
    simp only [execOp, h1]
    rw [h1] at h2
    exact h2
  | binOp op t x y u => exact value_wp rfl (bin_sound ok h hi hn)
  | unOp op t x => exact value_wp rfl (un_sound h hi hn)
  | convert s t x => exact value_wp rfl (conv_sound ok h hi hn)
  | makeSlice t l c => exact value_wp' rfl (makeSlice_sound ok h hi hn)
  | fieldAddr t x j => exact value_wp rfl (fieldAddr_sound ok h hi hn)
  | field t x j => exact value_wp rfl (field_sound ok h hi hn)
  | indexAddr t x i => exact value_wp rfl (indexAddr_sound ok h hi hn)
  | index t x i => exact value_wp rfl (index_sound ok h hi hn)
  | slice t x lo hi' mx => exact value_wp rfl (slice_sound ok h hi hn)
  | extract x j => exact value_wp rfl (extract_sound h hi hn)
  | makeFunc fn first caps =>
    cases fn with
    | func f =>
      simp only [opA, A.wp] at h
      obtain ⟨h0, h⟩ := h
      have hfirst : first = #[] := Array.size_eq_zero_iff.1 h0
      subst hfirst
      exact value_wp rfl (makeFunc_sound h hi hn)
    | _ => exact h.elim
  | call c =>
    obtain ⟨callee, args, ats⟩ := c
    simp only [opA] at h
    split at h
    · split at h
      · rename_i x t ts hx ht
        have hx' : args = #[x] := by rw [← Array.toArray_toList (xs := args), hx]
        have ht' : ats[0]? = some t := by rw [← Array.getElem?_toList, ht]; rfl
        subst hx'
        obtain ⟨v, h1, h2⟩ := len_sound ok ht' h hi hn (ats := ats) (ty := ty)
        unfold Oper.wp
        simp only [execOp, resolve, Sem.run_bind, Sem.run_pure, Result.andThen_ok, invoke, builtin, List.map_toArray, List.map_cons, List.map_nil, h1]
        exact h2
      · exact h.elim
    · split at h
      · rename_i x y t u hx ht
        have hx' : args = #[x, y] := by rw [← Array.toArray_toList (xs := args), hx]
        have ht' : ats = #[t, u] := by rw [← Array.toArray_toList (xs := ats), ht]
        subst hx' ht'
        obtain ⟨v, w', h1, h2⟩ := append_sound ok h hi hn (ty := ty)
        unfold Oper.wp
        simp only [execOp, resolve, Sem.run_bind, Sem.run_pure, Result.andThen_ok, invoke, builtin, List.map_toArray, List.map_cons, List.map_nil, h1]
        exact h2
      · exact h.elim
    · obtain ⟨v, h1, h2⟩ := minMax_sound h hi hn
      have hargs : args.map act.eval = (args.toList.map act.eval).toArray := by rw [← Array.toList_map, Array.toArray_toList]
      unfold Oper.wp
      simp only [execOp, resolve, Sem.run_bind, Sem.run_pure, Result.andThen_ok, invoke, builtin, hargs]
      have h3 : (Builtin.min_ ats ty (args.toList.map act.eval).toArray).run P w = .ok v w := h1
      simp only [h3, Result.andThen_ok]
      exact h2
    · obtain ⟨v, h1, h2⟩ := minMax_sound h hi hn
      have hargs : args.map act.eval = (args.toList.map act.eval).toArray := by rw [← Array.toList_map, Array.toArray_toList]
      unfold Oper.wp
      simp only [execOp, resolve, Sem.run_bind, Sem.run_pure, Result.andThen_ok, invoke, builtin, hargs]
      have h3 : (Builtin.max_ ats ty (args.toList.map act.eval).toArray).run P w = .ok v w := h1
      simp only [h3, Result.andThen_ok]
      exact h2
    · rename_i q
      simp only [A.wp] at h
      obtain ⟨h1, h⟩ := h
      obtain ⟨f, caps, hv, ⟨fn, hf, hng, hbd⟩, hcall⟩ := callV_sound h hi hn
      have hxs : (((ats.toList.zip args.toList).map fun x => act.eval x.2) ++ caps.toList).toArray = args.map act.eval ++ caps := by
        have : (ats.toList.zip args.toList).map (fun x => act.eval x.2) = args.toList.map act.eval := by
          rw [show (fun x : TypeId × Operand => act.eval x.2) = act.eval ∘ (fun x => x.2) from rfl, ← List.map_map]
          congr 1
          exact List.map_snd_zip (by simp [h1])
        rw [this, ← Array.toList_map, ← Array.toList_append, Array.toArray_toList]
      rw [hxs] at hcall
      unfold Oper.wp
      have hex : (execOp act.eval { dst := dst, op := Op.call { callee := Callee.value (Operand.tmp q), args := args, argTypes := ats }, type := ty, pos := pos, after := aft, guard := grd }).run P w = .ok (.enter f (args.map act.eval ++ caps)) w := by
        simp only [execOp, resolve, hv, Deferred.ofValue, Sem.run_bind, Sem.run_pure, Result.andThen_ok, invoke, callFunc, Array.empty_append]
        rw [show (program.run P w) = .ok P w from rfl]
        simp only [Result.andThen_ok, hf, hng, hbd, if_false, Bool.false_eq_true]
        rfl
      rw [hex, Oper.upon_enter]
      refine Calls.mono hcall ?_
      rintro e w' ⟨v, rfl, hv⟩
      exact hv
    · rename_i g
      simp only [A.wp] at h
      obtain ⟨⟨h1, h2⟩, h⟩ := h
      obtain ⟨⟨fn, hf, hng, hbd⟩, hcall⟩ := call_sound h hi hn
      have hxs : ((zip3 (Γ.sig g) ats.toList args.toList).map fun x => act.eval x.2.2).toArray = args.map act.eval := by
        have := zip3_snd (ms := Γ.sig g) (ts := ats.toList) (xs := args.toList) (by simpa using h1) (by simpa using h2)
        rw [show (fun x : Mode × TypeId × Operand => act.eval x.2.2) = act.eval ∘ (fun x => x.2.2) from rfl, ← List.map_map, this, ← Array.toList_map, Array.toArray_toList]
      rw [hxs] at hcall
      unfold Oper.wp
      have hex : (execOp act.eval { dst := dst, op := Op.call { callee := Callee.value (Operand.func g), args := args, argTypes := ats }, type := ty, pos := pos, after := aft, guard := grd }).run P w = .ok (.enter g (args.map act.eval)) w := by
        simp only [execOp, resolve, Act.eval, Deferred.ofValue, Sem.run_bind, Sem.run_pure, Result.andThen_ok, invoke, callFunc, Array.append_empty, Array.empty_append]
        rw [show (program.run P w) = .ok P w from rfl]
        simp only [Result.andThen_ok, hf, hng, hbd, if_false, Bool.false_eq_true]
        rfl
      rw [hex, Oper.upon_enter]
      refine Calls.mono hcall ?_
      rintro e w' ⟨v, rfl, hv⟩
      exact hv
    · exact h.elim
  | _ => exact h.elim

end
end Go.Own
