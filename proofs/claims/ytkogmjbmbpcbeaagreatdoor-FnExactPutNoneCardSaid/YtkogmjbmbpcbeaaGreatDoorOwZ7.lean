/- A layer over the walk: what lies in memory as plain data, each operation by what it does to data; part 19. -/
import Derived.Test.YtkogmjbmbpcbeaaGreatDoorOwZ5
import Derived.Below
import Derived.ProofKit
set_option linter.unusedSectionVars false
set_option linter.unusedVariables false
set_option linter.unusedSimpArgs false
namespace Go.Own
variable [Glb]
open Go
@[simp] def T.zcells : T → List Value
 | .unit => []
 | .int k => [.int k 0]
 | .bool => [.bool false]
 | .str => [.string .empty]
 | .pair a b => a.zcells ++ b.zcells
 | .lst _ _ => [.slice none 0 0]
 | .err => [.nilIface]
 | _ => []
@[simp] def T.zok : T → Bool
 | .pair a b => a.zok && b.zok
 | .ptr _ => false
 | .fn _ _ => false
 | .gone => false
 | _ => true
theorem Rep.zero (h : Heap) (V : Nat → Prop) : ∀ (t : T), t.zok = true → ∃ κ : K, κ.blocks = [] ∧ Rep h V t t.zero κ t.zcells
 | .unit, _ => ⟨.leaf, rfl, rfl, rfl, rfl⟩
 | .int k, _ => ⟨.leaf, rfl, 0, rfl, rfl, rfl, by cases k <;> decide⟩
 | .bool, _ => ⟨.leaf, rfl, false, rfl, rfl, rfl⟩
 | .str, _ => ⟨.leaf, rfl, [], rfl, rfl, rfl, by decide⟩
 | .pair a b, hz => by
   simp only [T.zok, Bool.and_eq_true] at hz
   obtain ⟨k1, h1, h2⟩ := Rep.zero h V a hz.1
   obtain ⟨k2, h3, h4⟩ := Rep.zero h V b hz.2
   exact ⟨.pair k1 k2, by simp [K.blocks, h1, h3], _, _, _, _, _, _, rfl, rfl, rfl, h2, h4⟩
 | .lst o e, _ => ⟨.leaf, rfl, [], rfl, .inl ⟨rfl, rfl, none, rfl, fun _ => rfl⟩⟩
 | .ptr _, hz => by simp at hz
 | .fn _ _, hz => by simp at hz
 | .err, _ => ⟨.leaf, rfl, false, rfl, rfl, .nilIface, rfl, .inl ⟨rfl, rfl⟩⟩
 | .gone, hz => by simp at hz
@[simp] def zE9 (Γ : Env) : List Field → T → Nat → Prop
 | [], .unit, _ => True
 | f :: fs, .pair a b, o => f.offset = o ∧ Γ.ty f.type = a ∧ a.ok = true ∧ zE9 Γ fs b (o + a.size)
 | _, _, _ => False
theorem z9u {Γ : Env} : ∀ {fs : List Field} {t : T} {o : Nat}, zE9 Γ fs t o →
 (∀ j, t.has j = true → ∃ f, fs[j]? = some f ∧ f.offset = o + t.off j ∧ Γ.ty f.type = t.fld j ∧ (t.fld j).ok = true) ∧ ∀ j, j < fs.length → t.has j = true
 | [], .unit, _, _ => ⟨fun j hj => by simp at hj, fun j hj => by simp at hj⟩
 | f :: fs, .pair a b, o, h => by
   obtain ⟨h1, h2, h3, h4⟩ := h
   obtain ⟨g1, g2⟩ := z9u h4
   refine ⟨fun j hj => ?_, fun j hj => ?_⟩
   ·cases j with
    | zero => exact ⟨f, rfl, by simpa using h1, h2, h3⟩
    | succ j =>
      obtain ⟨f', e1, e2, e3, e4⟩ := g1 j hj
      exact ⟨f', e1, by rw [e2]; simp [Nat.add_assoc], e3, e4⟩
   ·cases j with
    | zero => rfl
    | succ j => exact g2 j (by simpa using hj)
def zMb (P : Program) (Γ : Env) (t : TypeId) : T → Prop
 | .unit => P.underlying t = some (.struct #[])
 | .int k => P.underlying t = some (.int k)
 | .bool => P.underlying t = some .bool
 | .str => P.underlying t = some .string
 | .pair a b => ∃ fs, P.underlying t = some (.struct fs) ∧ zE9 Γ fs.toList (.pair a b) 0
 | .lst o e => o = o ∧ ∃ et, P.underlying t = some (.slice et) ∧ Γ.ty et = e ∧ e.ok = true ∧ (P.info? et).map (·.bytes) = some (Γ.eb t)
 | .err => ∃ ms, P.underlying t = some (.interface ms)
 | _ => False
def cmpB (P : Program) (t : TypeId) (T : T) : Bool := !T.eqsOk || (!P.stoodInHeld t && (!P.eqGuardType P.depth t && (P.fieldsOf t).toList.all fun f => !(f.name == "_")))
def zIo (P : Program) (Γ : Env) (t : TypeId) : Prop :=
 zMb P Γ t (Γ.ty t) ∧ (Γ.ty t).zok = true ∧ (P.info? t).map (fun i => (i.size, i.zero)) = some ((Γ.ty t).size, some (z0Q (Γ.ty t) (Γ.ty t).zcells)) ∧ cmpB P t (Γ.ty t) = true
theorem zCo : ∀ {t : T}, t.zok = true → t.sound = true
 | .unit, _ | .int _, _ | .bool, _ | .str, _ | .lst _ _, _ | .err, _ => rfl
 | .pair a b, h => by
   simp only [T.zok, Bool.and_eq_true] at h
   simp [zCo h.1, zCo h.2]
theorem EnvOk.of {P : Program} {Γ : Env} (ts : List TypeId) (hts : ∀ t, (Γ.ty t).ok = true → t ∈ ts) (h : ∀ t, t ∈ ts → zIo P Γ t) (hm : P.follows .mixedOrders = true) : EnvOk P Γ := by
 refine ⟨fun t ht => ?_, fun t ht => ?_, fun t ht => ?_, fun t ht => ?_, hm, fun t ht => ?_⟩
 ·obtain ⟨h1, h2, _⟩ := h t (hts t ht)
  generalize Γ.ty t = T at h1 h2
  cases T with
  | pair a b =>
    obtain ⟨fs, e, hf⟩ := h1
    obtain ⟨g1, g2⟩ := z9u hf
    refine ⟨fs, e, fun j hj => ?_, fun j hj => g2 j (by simpa using hj)⟩
    obtain ⟨f, e1, e2, e3, e4⟩ := g1 j hj
    exact ⟨f, by simpa using e1, by simpa using e2, e3, e4⟩
  | lst o e =>
    obtain ⟨ho, et, e1, e2, e3, _⟩ := h1
    exact ⟨ho, et, e1, e2, e3⟩
  | _ => exact h1
 ·exact zCo (h t (hts t ht)).2.1
 ·obtain ⟨_, h2, h3, _⟩ := h t (hts t ht)
  cases hi : P.info? t with
  | none => rw [hi] at h3; simp at h3
  | some i =>
    rw [hi] at h3
    simp only [Option.map_some, Option.some.injEq, Prod.mk.injEq] at h3
    have hne : Γ.ty t ≠ .gone := by intro e; rw [e] at h2; simp at h2
    obtain ⟨κ, hκ, hr⟩ := Rep.zero #[] (fun _ => False) (Γ.ty t) h2
    have hc := zCm hne hr
    refine ⟨i, rfl, h3.1, _, h3.2, by rw [hc]; exact hr.length, fun h V => ?_⟩
    obtain ⟨κ', hκ', hr'⟩ := Rep.zero h V (Γ.ty t) h2
    rw [hc]
    exact ⟨κ', hκ', hr', rfl⟩
 ·have hok : (Γ.ty t).ok = true := by
   generalize Γ.ty t = T at ht
   cases T <;> simp at ht ⊢
  obtain ⟨h1, h2, _⟩ := h t (hts t hok)
  generalize Γ.ty t = T at h1 ht
  cases T with
  | lst o e =>
    obtain ⟨_, et, e1, _, _, e4⟩ := h1
    cases hi : P.info? et with
    | none => rw [hi] at e4; simp at e4
    | some i => rw [hi] at e4; simp at e4; exact ⟨et, i, e1, hi, e4⟩
  | _ => simp at ht
 ·have hok : (Γ.ty t).ok = true := by
   generalize Γ.ty t = T at ht
   cases T <;> simp [T.eqsOk, T.eqs] at ht ⊢
  have h4 := (h t (hts t hok)).2.2.2
  simp only [cmpB, ht, Bool.not_true, Bool.false_or, Bool.and_eq_true, Bool.not_eq_true', List.all_eq_true, beq_eq_false_iff_ne] at h4
  exact h4
end Go.Own
namespace Go.Own
variable [Glb]
noncomputable section
open Go
@[simp] def Cl.none : Cl := ⟨.undef, ⟨0, 0, 0⟩⟩
def St.of (l : List Cl) : St := fun s => l.getD s Cl.none
@[simp] def setC : List Cl → Nat → Cl → List Cl
 | [], 0, c => [c]
 | [], n + 1, c => Cl.none :: setC [] n c
 | _ :: xs, 0, c => c :: xs
 | x :: xs, n + 1, c => x :: setC xs n c
@[simp] def getC : List Cl → Nat → Cl
 | [], _ => Cl.none
 | x :: _, 0 => x
 | _ :: xs, n + 1 => getC xs n
theorem zBE : ∀ (l : List Cl) (d i : Nat) (c : Cl), getC (setC l d c) i = if i = d then c else getC l i
 | [], 0, 0, c => by simp
 | [], 0, i + 1, c => by simp
 | [], d + 1, 0, c => by simp
 | [], d + 1, i + 1, c => by simp [zBE [] d i c]
 | x :: xs, 0, 0, c => by simp
 | x :: xs, 0, i + 1, c => by simp
 | x :: xs, d + 1, 0, c => by simp
 | x :: xs, d + 1, i + 1, c => by simp [zBE xs d i c]
theorem zJH : ∀ (l : List Cl) (i : Nat), l.getD i Cl.none = getC l i
 | [], i => by simp
 | x :: xs, 0 => by simp
 | x :: xs, i + 1 => by
   have := zJH xs i
   rw [getC, ← this]
   simp
@[simp] theorem St.of_get (l : List Cl) (s : Nat) : (St.of l) s = getC l s := zJH l s
@[simp] theorem St.of_put (l : List Cl) (d : Nat) (c : Cl) : (St.of l).put d c = St.of (setC l d c) := by
 funext i
 rw [St.of_get, zBE]
 simp [St.put]
@[simp] def zI0 : List Arg → List Cl
 | [] => []
 | a :: as => ⟨if a.m = .iop then .box a.t a.d else .val a.t a.d, ⟨0, 0, 0⟩⟩ :: zI0 as
theorem zL6 : ∀ (as : List Arg), zGA as = St.of (zI0 as) := by
 intro as
 funext s
 rw [St.of_get]
 unfold zGA
 induction as generalizing s with
 | nil => simp [Cl.none]
 | cons a as ih =>
   cases s with
   | zero => simp
   | succ s => simpa using ih s
attribute [simp] Cl.setRoot A.wp A.wpD St.apply AV.off Cl.root z1Q z3t
@[congr] theorem opsW_congr {X : Ctr} {Γ : Env} {ops : Array Oper} {is : List Nat} {S S' : St} {K : St → Prop} (h : S = S') : opsW X Γ ops is S K = opsW X Γ ops is S' K := by rw [h]
@[congr] theorem opsD_congr {X : Ctr} {Γ : Env} {ops : Array Oper} {bef : List (List Nat)} {tr tr' : List Tr} {is : List Nat} {S S' : St} {K : St → Prop} (ht : tr = tr') (h : S = S') : opsD X Γ ops bef tr is S K = opsD X Γ ops bef tr' is S' K := by rw [h, ht]
@[congr] theorem Ex_congr {P : Program} {Γ : Env} {E : Entry} {c : Code} {Q : Exit → St → Prop} {S S' : St} (h : S = S') : Ex P Γ E c Q S = Ex P Γ E c Q S' := by rw [h]
def opsL (X : Ctr) (Γ : Env) (ops : Array Oper) : List Oper → St → (St → Prop) → Prop
 | [], S, K => K S
 | o :: os, S, K => (opG Γ ops o).wp X S fun ws => opsL X Γ ops os (S.apply ws) K
@[congr] theorem opsL_congr {X : Ctr} {Γ : Env} {ops : Array Oper} {os : List Oper} {S S' : St} {K : St → Prop} (h : S = S') : opsL X Γ ops os S K = opsL X Γ ops os S' K := by rw [h]
theorem opsL_nil {X : Ctr} {Γ : Env} {ops : Array Oper} {S : St} {K : St → Prop} (h : K S) : opsL X Γ ops [] S K := h
theorem opsL_cons {X : Ctr} {Γ : Env} {ops : Array Oper} {o : Oper} {os : List Oper} {S : St} {K : St → Prop} (h : (opG Γ ops o).wp X S fun ws => opsL X Γ ops os (S.apply ws) K) : opsL X Γ ops (o :: os) S K := h
theorem zFp {X : Ctr} {Γ : Env} {ops : Array Oper} {K : St → Prop} : ∀ (os : List Oper) (k : Nat) {S : St}, os = ops.toList.drop k → opsL X Γ ops os S K → opsW X Γ ops ((List.range os.length).map (· + k)) S K
 | [], k, S, _, h => h
 | o :: os, k, S, he, h => by
   have h0 : ops[k]? = some o := by
    have := congrArg (fun l : List Oper => l[0]?) he
    simpa using this.symm
   have ht : os = ops.toList.drop (k + 1) := by
    have := congrArg List.tail he
    simpa using this
   rw [List.length_cons, List.range_succ_eq_map, List.map_cons, List.map_map]
   simp only [opsW, Nat.zero_add, h0]
   refine A.wp_mono (fun ws hw => ?_) h
   have := zFp os (k + 1) ht hw
   rwa [show ((fun x => x + k) ∘ Nat.succ) = (fun x => x + (k + 1)) from by funext x; simp; omega]
theorem Ex.ops {P : Program} {Γ : Env} {E : Entry} {S : St} (ok : EnvOk P Γ) {Q : Exit → St → Prop} {id : Nat} {ops : Array Oper} (h : opsL (VX P) Γ ops ops.toList S (Q .normal)) : Ex P Γ E (.region id ops false) Q S := by
 refine Ex.region ok ?_
 have := zFp ops.toList 0 (by simp) h
 simpa using this
theorem opsW_nil {X : Ctr} {Γ : Env} {ops : Array Oper} {S : St} {K : St → Prop} : opsW X Γ ops [] S K = K S := rfl
theorem opsW_cons {X : Ctr} {Γ : Env} {ops : Array Oper} {i : Nat} {is : List Nat} {S : St} {K : St → Prop} {o : Oper} (ho : ops[i]? = some o) (h : (opG Γ ops o).wp X S fun ws => opsW X Γ ops is (S.apply ws) K) : opsW X Γ ops (i :: is) S K := by
 simp only [opsW, ho]
 exact h
@[simp] theorem A.wp_ite {X : Ctr} {S : St} {K : Wr → Prop} {c : Prop} [Decidable c] {a b : A} : (if c then a else b).wp X S K ↔ (c → a.wp X S K) ∧ (¬ c → b.wp X S K) := by
 split <;> simp_all
end
end Go.Own
namespace Go.Own
variable [Glb]
open Go Go.RowKit Go.ChangeShapes Go.WideShapes Go.ChangeAt
theorem arg_int {h : Heap} {V : Nat → Prop} {k : IntKind} {n : Int} (hn : (Lit.int k n).wf = true) : ArgV h V ⟨.vw, .int k, .int n⟩ .leaf (.int k n) := by
 simp only [Lit.wf, Bool.and_eq_true, decide_eq_true_eq] at hn
 exact ⟨rfl, _, ⟨n, rfl, rfl, rfl, hn⟩, rfl⟩
theorem arg_str {h : Heap} {V : Nat → Prop} {s : ByteArray} (hs : s.size ≤ maxLen) : ArgV h V ⟨.vw, .str, .str s.data.toList⟩ .leaf (.string s) :=
 ⟨rfl, _, ⟨s.data.toList, rfl, rfl, rfl, Nat.le_trans (by rw [Array.length_toList]; exact hs) (show maxLen ≤ smax by decide)⟩, by simp [z0Q]⟩
variable {H : Type} {enc : TypeId × Value → H} {P : Program}
theorem post_flat {f : Func} {s : ChangeSpec} {z7L fresh handsOn again : Bool} {W W' : World} {args : Array Value} {v : Value} {ds gs : List (DataW H)}
 (hW : DataW.Whole enc P f.params.toList s.vars z7L W args.toList ds gs [])
 (hres : ∀ (b : Nat) (sp : Nat → Bool) (hd : Bool), DataW.TrodAll enc P W' b sp hd f.resultTypes.toList (v.resultList f.resultTypes.size) (s.fn H (ds ++ gs)).results [])
 (hargs : ∀ sp : Nat → Bool, DataW.TrodAll enc P W' 0 sp true f.params.toList args.toList (s.fn H (ds ++ gs)).args [])
 (hvars : ∀ sp : Nat → Bool, DataW.TrodVars enc P W' sp s.vars (s.fn H (ds ++ gs)).vars [])
 (hk : Below W.heap.size W W')
 (hok : ∀ (j : Nat) (t : TypeId) (r : Value), f.resultTypes[j]? = some t → (v.resultList f.resultTypes.size)[j]? = some r → Value.okWide P W' .any 0 t r) :
 s.post enc P f z7L fresh handsOn again W args v W' := by
 refine ⟨ds, gs, [], [], [], [], hW, hres _ _ _, hargs _, hvars _, hk.frame _, fun _ => ⟨hok, (s.fn H (ds ++ gs)).results ++ (s.fn H (ds ++ gs)).args, _, [], ⟨[], [], ?_, hvars _, rfl, ?_, by simp⟩, by simp⟩⟩
 ·exact trodAll_append (hargs (fun _ => true)) (hres 0 (fun _ => true) true)
 ·intro b off hp; simp at hp
end Go.Own
namespace Go.Own
variable [Glb]
open Go
theorem VX.one {P : Program} {g : FuncId} {as : List Arg} {R : Res} {K : Res → List D → Prop} (hc : z4C P g) (hv : z87 P g as (fun r _ => r = R)) (h : ∀ o, K R o) :
 ∃ Post, VX P g as Post ∧ (∃ r o, Post r o) ∧ ∀ r o, Post r o → K r o :=
 ⟨_, ⟨hc, hv⟩, ⟨R, [], rfl⟩, fun r o e => e ▸ h o⟩
theorem VX.both {P : Program} {g : FuncId} {as : List Arg} {R : Res} {O : List D} {K : Res → List D → Prop} (hc : z4C P g) (hv : z87 P g as (fun r o => r = R ∧ o = O)) (h : K R O) :
 ∃ Post, VX P g as Post ∧ (∃ r o, Post r o) ∧ ∀ r o, Post r o → K r o :=
 ⟨_, ⟨hc, hv⟩, ⟨R, O, rfl, rfl⟩, fun r o e => by obtain ⟨rfl, rfl⟩ := e; exact h⟩
@[simp] theorem i64_min : IntKind.min .i64 = -9223372036854775808 := by decide
@[simp] theorem i64_max : IntKind.max .i64 = 9223372036854775807 := by decide
end Go.Own
