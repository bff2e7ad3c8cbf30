/- A layer over the walk: what lies in memory as plain data, each operation by what it does to data; part 4. -/
import Derived.Test.YtkogmjbmbpcbeaaGreatDoorOwG
import Derived.WalkKit
import Derived.Laws.CopyRow
import Derived.Laws.StructEq
import Derived.Lib.FrozenHead
set_option linter.unusedSectionVars false
set_option linter.unusedVariables false
set_option linter.unusedSimpArgs false
namespace Go.Own
noncomputable section
variable (Γ : Env)
@[simp] def z61 (dst : Option Nat) (t : TypeId) (x y : Operand) : A := opd x fun a => opd y fun b => match a, b with
 | .val (.int _) m, .val (.int _) n =>
   .need (m.i = n.i ∧ 0 ≤ n.i ∧ (Γ.ty t).lsts = true ∧ n.i.toNat ≤ smax ∧ n.i.toNat * Γ.eb t ≤ 140737488355328)
    ((out Γ dst (.val (.lst true (Γ.ty t).elem) (.lst (List.replicate n.i.toNat (Γ.ty t).elem.zero)))))
 | _, _ => .fail
def z0c (l : List D) : List UInt8 := l.map fun d => UInt8.ofNat d.i.toNat
@[simp] def zHm (dst : Option Nat) (src tgt : TypeId) (x : Operand) : A := opd x fun a => match a with
 | .val (.int _) d => match Γ.ty tgt with
   | .int k => .need ((Γ.ty src).ok = true) (out Γ dst (.val (.int k) (.int (k.wrap d.i))))
   | _ => .fail
 | .val (.lst false (.int .u8)) d => .need (Γ.ty src = .lst true (.int .u8) ∧ Γ.ty tgt = .str) (out Γ dst (.val .str (.str (z0c d.l))))
 | .ref r v p (.lst true (.int .u8)) _ => rootOf r fun cr tr dr _ =>
    .need (z1Q v cr.v (depth p) ∧ tr.at p = .lst true (.int .u8) ∧ Ok tr dr p ∧ Γ.ty src = .lst true (.int .u8) ∧ Γ.ty tgt = .str) (out Γ dst (.val .str (.str (z0c (dr.get p).l))))
 | _ => .fail
end
end Go.Own
namespace Go.Own
noncomputable section
variable (Γ : Env)
structure Io where
 r : Nat
 p : Path
 c : Cl
 t : T
 d : D
@[simp] def evalCaps : List Cap → (T → D → List Nat → A) → A
 | [], k => k .unit .unit []
 | .val t d :: l, k => evalCaps l fun T' D' br => k (.pair t T') (.pair d D') br
 | .ptr r v p :: l, k => rootOf r fun cr tr dr bx => .need (z3t v cr.v (depth p) ∧ Ok tr dr p ∧ (bx = true ∨ depth p ≠ 0)) (evalCaps l fun T' D' br => k (.pair (.ptr (tr.at p).view) T') (.pair (dr.get p) D') (r :: br))
@[simp] def evalArg (m : Mode) (ty : TypeId) (x : Operand) (k : Arg → List Nat → Option Io → A) : A := opd x fun a =>
 match m with
 | .vw => match a with
   | .val t d => k ⟨.vw, t, d⟩ [] none
   | .ref r v p t d => rootOf r fun cr tr dr _ => .need (z1Q v cr.v (depth p) ∧ tr.at p = t ∧ Ok tr dr p) (k ⟨.vw, t.view, D.mix t d (dr.get p)⟩ [r] none)
   | .nil => match Γ.ty ty with
     | .lst _ e => k ⟨.vw, .lst false e.view, .lst []⟩ [] none
     | _ => .fail
   | .clo f l => evalCaps l fun T' D' br => k ⟨.vw, .fn f T', D'⟩ br none
   | _ => .fail
 | .io => match a with
   | .ref r v p t d => rootOf r fun cr tr dr _ => .need (z1Q v cr.v (depth p) ∧ tr.at p = t ∧ Ok tr dr p) (k ⟨.io, t, D.mix t d (dr.get p)⟩ [] (some ⟨r, p, cr, tr, dr⟩))
   | _ => .fail
 | .iop => match a with
   | .ptr r v [] => rootOf r fun cr tr dr bx => .need (z3t v cr.v 0 ∧ bx = true) (k ⟨.iop, tr, dr⟩ [] (some ⟨r, [], cr, tr, dr⟩))
   | _ => .fail
 | .own => .fail
@[simp] def evalArgs : List (Mode × TypeId × Operand) → List Arg → List Nat → Option (Nat × Io) → (List Arg → List Nat → Option (Nat × Io) → A) → A
 | [], as, br, io, k => k as br io
 | (m, ty, x) :: xs, as, br, io, k => evalArg Γ m ty x fun a b i => match i with
   | none => evalArgs xs (as ++ [a]) (br ++ b) io k
   | some i => match io with
     | none => evalArgs xs (as ++ [a]) (br ++ b) (some (as.length, i)) k
     | some _ => .fail
@[simp] def callA (s : Nat) (g : FuncId) (v : Ver) (as : List Arg) (br : List Nat) (io : Option (Nat × Io)) : A := match io with
 | none => .call g as [s] (!br.isEmpty) fun res _ => [(s, ⟨res.av, v.kill⟩)]
 | some (j, i) => .need (i.r ∉ br ∧ i.r ≠ s ∧ (br = [] ∨ (as.getD j default).t.noview = true)) (.call g as [i.r, s] (!br.isEmpty) fun res outs =>
    [(i.r, if (as.getD j default).m = .iop then i.c.setRoot i.t (outs.getD j .unit) i.c.v.head
     else i.c.setRoot i.t (i.d.set i.p (D.mixR (i.t.at i.p) (i.d.get i.p) (outs.getD j .unit))) i.c.v.cont), (s, ⟨res.av, v.kill⟩)])
@[simp] def evalG : List (Mode × TypeId × Operand) → List Arg → List Nat → Wr → (List Arg → List Nat → Wr → A) → A
 | [], as, br, ws, k => k as br ws
 | (.own, ty, x) :: xs, as, br, ws, k => takeW ws (Γ.ty ty) x fun t d ws' => evalG xs (as ++ [⟨.own, t, d⟩]) br (ws ++ ws') k
 | (m, ty, x) :: xs, as, br, ws, k => evalArg Γ m ty x fun a b i => match i with
   | none => evalG xs (as ++ [a]) (br ++ b) ws k
   | some _ => .fail
@[simp] def zC7 (dst : Option Nat) (g : FuncId) (xs : List (Mode × TypeId × Operand)) : A :=
 match dst with
 | none => .fail
 | some s => .ask s fun cd => .need (s < Γ.n ∧ s ∉ Γ.fx) (evalG Γ xs [] [] [] fun as br ws =>
    .need (s ∉ ws.map (·.1) ∧ ∀ r ∈ br, r ∉ ws.map (·.1)) (.call g as (ws.map (·.1) ++ [s]) (!br.isEmpty) fun res _ => ws ++ [(s, ⟨res.av, cd.v.kill⟩)]))
def zJr (xs : List (Mode × TypeId × Operand)) : Bool := xs.any fun x => match x.1 with | .own => true | _ => false
@[simp] def zFk (dst : Option Nat) (g : FuncId) (xs : List (Mode × TypeId × Operand)) : A := if zJr xs then zC7 Γ dst g xs else match dst with
 | none => .fail
 | some s => .ask s fun cd => .need (s < Γ.n ∧ s ∉ Γ.fx) (evalArgs Γ xs [] [] none fun as br io => callA s g cd.v as br io)
@[simp] def z6L : T → D → List Arg
 | .pair t T', d => ⟨.vw, t, d.fst⟩ :: z6L T' d.snd
 | _, _ => []
@[simp] def zF4 : T → Bool
 | .pair t T' => !t.agg && zF4 T'
 | .unit => true
 | _ => false
@[simp] def zC8 (dst : Option Nat) (q : Nat) (xs : List (TypeId × Operand)) : A :=
 match dst with
 | none => .fail
 | some s => .ask s fun cd => .need (s < Γ.n ∧ s ∉ Γ.fx) (evalArgs Γ (xs.map fun x => (.vw, x.1, x.2)) [] [] none fun as br io => match io with
   | some _ => .fail
   | none => .ask q fun c => match c.av with
     | .val (.fn f T') d => .need (zF4 T' = true) (callA s f cd.v (as ++ z6L T' d) br none)
     | _ => .fail)
@[simp] def capsOf : List Operand → (List Cap → A) → A
 | [], k => k []
 | x :: xs, k => opd x fun a => match a with
   | .val t d => .need (t.plain = true ∧ t.agg = false) (capsOf xs fun l => k (.val t d :: l))
   | .ptr r v p => capsOf xs fun l => k (.ptr r v p :: l)
   | _ => .fail
@[simp] def z9X (dst : Option Nat) (f : FuncId) (caps : List Operand) : A := capsOf caps fun l => out Γ dst (.clo f l)
end
end Go.Own
namespace Go.Own
open Go
theorem z2u (P : Program) (g o : Nat) (t : TypeId) (fz : Nat × Nat) : ∀ (vs : List Value) (i : Nat) (cur : Array Value) (w : World), w.heap[g]? = some (.cells cur t fz) → Free fz cur.size → o + i + vs.length ≤ cur.size → (∀ v ∈ vs, v.oneCell' = true) →
 (storeCells ⟨g, o, none⟩ vs i).run P w = .ok () (w.setRow g (spl cur.toList (o + i) vs).toArray)
 | [], i, cur, w, hg, _, _, _ => by
   simp only [storeCells, spl, List.nil_append, List.length_nil, Nat.add_zero, List.take_append_drop, Array.toArray_toList]
   rw [setRow_self w g cur t fz hg]
   rfl
 | v :: rest, i, cur, w, hg, hfz, hl, h1 => by
   have hi : o + i < cur.size := by simp at hl; omega
   have hadd : (⟨g, o, none⟩ : Addr).add i = ⟨g, o + i, none⟩ := by unfold Addr.add; split <;> simp_all
   have hcell : w.cell? ⟨g, o + i, none⟩ = some cur[o + i] := by simp [World.cell?, hg, hi]
   have hfro : w.frozen? ⟨g, o + i, none⟩ = false := by simp only [World.frozen?, hg]; exact hfz _ hi
   have hst : (store ((⟨g, o, none⟩ : Addr).add i) v).run P w = .ok () (w.setRow g (cur.setIfInBounds (o + i) v)) := by
    rw [hadd, run_store P w _ v _ (h1 v (by simp)), hcell]
    simp [hfro, setCell_eq_setRow w g (o + i) cur t fz v hg]
   have ih := z2u P g o t fz rest (i + 1) (cur.setIfInBounds (o + i) v) (w.setRow g (cur.setIfInBounds (o + i) v)) (setRow_heap w g cur _ t _ hg) (by simpa using hfz) (by simp at hl ⊢; omega) (fun x hx => h1 x (by simp [hx]))
   simp only [storeCells, Sem.run_bind, hst, Result.andThen_ok, ih, setRow_setRow]
   congr 3
   apply List.ext_getElem?
   intro k
   simp only [List.length_cons] at hl
   rw [z4x (show o + (i + 1) + rest.length ≤ (cur.setIfInBounds (o + i) v).toList.length by simp; omega), z4x (show o + i + (v :: rest).length ≤ cur.toList.length by simp; omega)]
   simp only [Array.toList_setIfInBounds, List.getElem?_set, List.length_cons, Array.length_toList]
   by_cases h2 : k < o + i
   ·rw [if_pos (by omega), if_neg (by omega), if_pos h2]
   ·by_cases h3 : k = o + i
    ·subst h3
     rw [if_pos (by omega), if_pos rfl, if_pos (by omega), if_neg (by omega), if_pos (by omega)]
     simp
    ·rw [if_neg h2]
     by_cases h4 : k < o + i + (rest.length + 1)
     ·rw [if_neg (show ¬ k < o + (i + 1) by omega), if_pos (show k < o + (i + 1) + rest.length by omega), if_pos h4, show k - (o + i) = (k - (o + (i + 1))) + 1 by omega, List.getElem?_cons_succ]
     ·rw [if_neg (show ¬ k < o + (i + 1) by omega), if_neg (show ¬ k < o + (i + 1) + rest.length by omega), if_neg h4, if_neg (show ¬ o + i = k by omega)]
theorem z5G (w : World) (g : Nat) (cs : Array Value) {b : Nat} (h : b ≠ g) : (w.setRow g cs).heap[b]? = w.heap[b]? := by
 simp [World.setRow, Array.getElem?_modify, Ne.symm h]
theorem z4v (w : World) (g : Nat) (cs : Array Value) : (w.setRow g cs).heap.size = w.heap.size := by simp [World.setRow]
theorem Rep.one {h : Heap} {V : Nat → Prop} {t : T} : ∀ {d κ cs}, Rep h V t d κ cs → t.sound = true → ∀ v ∈ cs, v.oneCell' = true := by
 induction t with
 | unit => rintro d κ cs ⟨_, _, rfl⟩ _ v hv; simp at hv
 | int k => rintro d κ cs ⟨_, _, _, rfl, _⟩ _ v hv; simp at hv; subst hv; rfl
 | bool => rintro d κ cs ⟨_, _, _, rfl⟩ _ v hv; simp at hv; subst hv; rfl
 | str => rintro d κ cs ⟨_, _, _, rfl, _⟩ _ v hv; simp at hv; subst hv; rfl
 | pair a b iha ihb =>
   rintro d κ cs ⟨d1, d2, κ1, κ2, c1, c2, _, _, rfl, h1, h2⟩ hg v hv
   simp at hg hv
   exact hv.elim (iha h1 hg.1 v) (ihb h2 hg.2 v)
 | lst o e ih =>
   rintro d κ cs ⟨xs, _, ⟨_, _, A, rfl, _⟩ | ⟨b, off, c, arr, ty, fz, ks, rfl, _⟩⟩ _ v hv <;> (simp at hv; subst hv; rfl)
 | ptr e ih => rintro d κ cs ⟨_, _, b, o, arr, ty, fz, ke, rfl, _⟩ _ v hv; simp at hv; subst hv; rfl
 | fn f c ih => rintro d κ cs ⟨_, _, caps, kc, rfl, _⟩ _ v hv; simp at hv; subst hv; rfl
 | err => rintro d κ cs ⟨_, _, _, x, rfl, ⟨_, rfl⟩ | ⟨_, _, _, rfl⟩⟩ _ v hv <;> (simp at hv; subst hv; rfl)
 | gone => intro d κ cs _ hg; simp at hg
def Fits (P : Program) (Γ : Env) (t : TypeId) : T → Prop
 | .unit => P.underlying t = some (.struct #[])
 | .int k => P.underlying t = some (.int k)
 | .bool => P.underlying t = some .bool
 | .str => P.underlying t = some .string
 | .pair a b => ∃ fs, P.underlying t = some (.struct fs) ∧ (∀ j, (T.pair a b).has j = true → ∃ f, fs[j]? = some f ∧ f.offset = (T.pair a b).off j ∧ Γ.ty f.type = (T.pair a b).fld j ∧ ((T.pair a b).fld j).ok = true) ∧ ∀ j, j < fs.size → (T.pair a b).has j = true
 | .lst o e => o = o ∧ ∃ et, P.underlying t = some (.slice et) ∧ Γ.ty et = e ∧ e.ok = true
 | .err => ∃ ms, P.underlying t = some (.interface ms)
 | _ => False
structure EnvOk (P : Program) (Γ : Env) : Prop where
 fits : ∀ t, (Γ.ty t).ok = true → Fits P Γ t (Γ.ty t)
 sound : ∀ t, (Γ.ty t).ok = true → (Γ.ty t).sound = true
 info : ∀ t, (Γ.ty t).ok = true → ∃ i, P.info? t = some i ∧ i.size = (Γ.ty t).size ∧ ∃ z, i.zero = some z ∧ z.cells.toList.length = (Γ.ty t).size ∧ ∀ h V, ∃ κ, κ.blocks = [] ∧ Rep h V (Γ.ty t) (Γ.ty t).zero κ z.cells.toList ∧ z = z0Q (Γ.ty t) z.cells.toList
 eb : ∀ t, (Γ.ty t).lsts = true → ∃ et i, P.underlying t = some (.slice et) ∧ P.info? et = some i ∧ i.bytes = Γ.eb t
 mixed : P.follows .mixedOrders = true
 cmp : ∀ t, (Γ.ty t).eqsOk = true → P.stoodInHeld t = false ∧ P.eqGuardType P.depth t = false ∧ ∀ f ∈ (P.fieldsOf t).toList, f.name ≠ "_"
theorem T.view_kind {t u : T} (h : t.view = u.view) : t.agg = u.agg ∧ t.size = u.size := by
 have h1 := congrArg T.agg h
 have h2 := congrArg T.size h
 rw [T.view_agg, T.view_agg] at h1
 rw [T.view_size, T.view_size] at h2
 exact ⟨h1, h2⟩
theorem EnvOk.isAgg {P : Program} {Γ : Env} (ok : EnvOk P Γ) {t : TypeId} (h : (Γ.ty t).ok = true) (w : World) : (isAgg t).run P w = .ok (Γ.ty t).agg w := by
 have hf := ok.fits t h
 generalize hT : Γ.ty t = T at hf
 unfold Go.isAgg
 rw [Sem.run_bind]
 cases T with
 | unit => have hu : P.underlying t = _ := hf; rw [run_underlying hu]; rfl
 | int k => have hu : P.underlying t = _ := hf; rw [run_underlying hu]; rfl
 | bool => have hu : P.underlying t = _ := hf; rw [run_underlying hu]; rfl
 | str => have hu : P.underlying t = _ := hf; rw [run_underlying hu]; rfl
 | pair a b => obtain ⟨fs, hu, _⟩ := hf; rw [run_underlying hu]; rfl
 | lst o e => obtain ⟨_, et, hu, _⟩ := hf; rw [run_underlying hu]; rfl
 | ptr e => exact hf.elim
 | fn f c => exact hf.elim
 | err => obtain ⟨ms, hu⟩ := hf; rw [run_underlying hu]; rfl
 | gone => exact hf.elim
theorem EnvOk.sizeOf {P : Program} {Γ : Env} (ok : EnvOk P Γ) {t : TypeId} (h : (Γ.ty t).ok = true) (w : World) : (sizeOf t).run P w = .ok (Γ.ty t).size w := by
 obtain ⟨i, hi, hs, _⟩ := ok.info t h
 rw [run_sizeOf w hi]
 simp [Program.cellsOf, hi, hs]
theorem z5p {w : World} {b o : Nat} {cs : List Value} {arr : Array Value} {ty : TypeId} {fz : Nat × Nat} (h1 : w.heap[b]? = some (.cells arr ty fz)) (h4 : (arr.toList.drop o).take cs.length = cs) :
 ∀ j v, cs[j]? = some v → w.cell? ((⟨b, o, none⟩ : Addr).add j) = some v := by
 intro j v hv
 have hadd : (⟨b, o, none⟩ : Addr).add j = ⟨b, o + j, none⟩ := by unfold Addr.add; split <;> simp_all
 have hj : j < cs.length := (List.getElem?_eq_some_iff.1 hv).1
 have := z0Z arr.toList o cs.length j
 rw [h4, if_pos hj, hv] at this
 rw [hadd]
 simp only [World.cell?, h1]
 simpa using this.symm
theorem Mem.cell {w : World} {b o : Nat} {cs : List Value} (hm : Mem w.heap b o cs) : ∀ j v, cs[j]? = some v → w.cell? ((⟨b, o, none⟩ : Addr).add j) = some v := by
 obtain ⟨arr, ty, fz, h1, _, h3, h4⟩ := hm
 exact z5p h1 h4
theorem z7z {P : Program} {Γ : Env} (ok : EnvOk P Γ) {t : TypeId} (ht : (Γ.ty t).ok = true) {V τ d κ cs b o} {w : World} (hr : Rep w.heap V τ d κ cs) (hcell : ∀ j v, cs[j]? = some v → w.cell? ((⟨b, o, none⟩ : Addr).add j) = some v) (hv : τ.view = (Γ.ty t).view) :
 (loadVar t ⟨b, o, none⟩).run P w = .ok (z0Q τ cs) w := by
 have hk := T.view_kind hv
 have hl := hr.length
 unfold loadVar
 rw [Sem.run_bind, ok.isAgg ht]
 simp only [Result.andThen_ok]
 by_cases ha : τ.agg = true
 ·rw [← hk.1, if_pos ha]
  rw [Sem.run_bind, ok.sizeOf ht]
  simp only [Result.andThen_ok]
  rw [← hk.2, ← hl, Sem.run_bind, run_loadCells_list w _ cs hcell]
  simp [z0Q, ha]
 ·rw [← hk.1, if_neg ha]
  have h1 : cs.length = 1 := by
   rw [hl]; clear hk hv hl hr; cases τ <;> simp at ha ⊢
  match cs, h1 with
  | [v], _ =>
    have := hcell 0 v rfl
    have e : (⟨b, o, none⟩ : Addr).add 0 = ⟨b, o, none⟩ := rfl
    rw [e] at this
    simp only [Go.load, Sem.run, this, z0Q, ha]
    rfl
end Go.Own
