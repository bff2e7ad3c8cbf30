/- A layer over the walk: what lies in memory as plain data, each operation by what it does to data; part 7. -/
import Derived.Test.YtajcjfickmmjcaaOwF
set_option linter.unusedVariables false
set_option linter.unusedSimpArgs false
namespace Go.Own
noncomputable section

def D.i : D → Int
  | .int n => n
  | _ => 0
def D.b : D → Bool
  | .bool b => b
  | _ => false
def D.s : D → List UInt8
  | .str s => s
  | _ => []

@[simp] theorem D.i_int (n : Int) : (D.int n).i = n := rfl
@[simp] theorem D.b_bool (b : Bool) : (D.bool b).b = b := rfl
@[simp] theorem D.s_str (s : List UInt8) : (D.str s).s = s := rfl

/-- how an argument is handed on: to be read; for good; to be written and given back; the same by its address -/
inductive Mode where
  | vw | own | io | iop
  deriving DecidableEq, Inhabited

structure Arg where
  m : Mode
  t : T
  d : D
  deriving Inhabited

abbrev Wr := List (Nat × Cl)

/-- what a call gives: one value; several (or none) -/
inductive Res where
  | one (t : T) (d : D)
  | many (t : T) (d : D)

@[simp] def T.noview : T → Bool
  | .pair a b => a.noview && b.noview
  | .lst o e => o && e.noview
  | .ptr _ => false
  | .fn _ _ => false
  | _ => true

@[simp] def Res.noview : Res → Bool
  | .one t _ => t.noview
  | .many t _ => t.noview

@[simp] def Res.av : Res → AV
  | .one t d => .val t d
  | .many t d => .tup t d

/-- one operation's look at the slots, and what it writes -/
inductive A where
  | ret (w : Wr)
  | ask (s : Nat) (k : Cl → A)
  | need (p : Prop) (k : A)
  | call (g : FuncId) (as : List Arg) (dom : List Nat) (nv : Bool) (k : Res → List D → Wr)
  | two (p : Prop) (k : Bool → A)
  | fail

abbrev Ctr := FuncId → List Arg → (Res → List D → Prop) → Prop

def A.wp (X : Ctr) : A → St → (Wr → Prop) → Prop
  | .ret w, _, K => K w
  | .ask s k, S, K => (k (S s)).wp X S K
  | .need p k, S, K => p ∧ k.wp X S K
  | .call g as dom nv k, _, K => ∃ Post, X g as Post ∧ (∃ r o, Post r o) ∧ ∀ r o, Post r o → (nv = true → r.noview = true) ∧ (k r o).map (·.1) = dom ∧ K (k r o)
  | .two p k, S, K => (p → (k true).wp X S K) ∧ (k false).wp X S K
  | .fail, _, _ => False

def A.reads : A → St → List Nat
  | .ask s k, S => s :: (k (S s)).reads S
  | .need _ k, S => k.reads S
  | _, _ => []
def A.dom : A → St → List Nat
  | .ret w, _ => w.map (·.1)
  | .ask s k, S => (k (S s)).dom S
  | .need _ k, S => k.dom S
  | .call _ _ dom _ _, _ => dom
  | .two _ k, S => (k false).dom S
  | .fail, _ => []

def St.apply (S : St) : Wr → St
  | [] => S
  | (s, c) :: w => (S.put s c).apply w

/-- the kinds of types (what is no such is 'gone'), their bytes, how functions take their arguments; how many slots there are -/
structure Env where
  ty : TypeId → T
  eb : TypeId → Nat
  sig : FuncId → List Mode
  n : Nat
  fx : List Nat
  deriving Inhabited

def AV.off (d : Nat) : AV → Prop
  | .ref r .. => r ≠ d
  | .win r .. => r ≠ d
  | .ptr r .. => r ≠ d
  | .clo _ l => ∀ c ∈ l, match c with | .ptr r _ _ => r ≠ d | _ => True
  | _ => True

/-- what is handed on when a slot is read -/
@[simp] def copyOf (t : Nat) (c : Cl) : AV :=
  match c.av with
  | .val ty d => if ty.plain then .val ty d else .ref t c.v [] ty d
  | .box _ _ => .ptr t c.v []
  | .tup _ _ => .undef
  | a => a

@[simp] def opd (x : Operand) (k : AV → A) : A :=
  match x with
  | .tmp t => .ask t fun c => k (copyOf t c)
  | .const (.int kd n) => .need (kd.min ≤ n ∧ n ≤ kd.max) (k (.val (.int kd) (.int n)))
  | .const (.bool b) => k (.val .bool (.bool b))
  | .const (.string s) => .need (s.size ≤ smax) (k (.val .str (.str s.data.toList)))
  | .const (.slice none 0 0) => k .nil
  | .func f => k (.clo f [])
  | _ => .fail

variable (Γ : Env)

@[simp] def out (dst : Option Nat) (a : AV) : A :=
  match dst with
  | none => .ret []
  | some d => .ask d fun c => .need (d < Γ.n ∧ d ∉ Γ.fx ∧ a.off d) (.ret [(d, ⟨a, c.v.kill⟩)])

@[simp] def T.moved : T → T
  | .pair a b => .pair a.moved b.moved
  | .lst true _ => .gone
  | t => t

@[simp] def D.mixR : T → D → D → D
  | .pair t u, d, c => .pair (D.mixR t d.fst c.fst) (D.mixR u d.snd c.snd)
  | .lst true _, _, c => c
  | .unit, _, _ => .unit
  | _, d, _ => d

open Classical in
/-- scalars as they were read, own rows as they are -/
noncomputable def D.mix (t : T) (d c : D) : D := if d = c then c else D.mixR t d c

def Cl.setRoot (c : Cl) (t : T) (d : D) (v : Ver) : Cl :=
  match c.av with
  | .val _ _ => ⟨.val t d, v⟩
  | .box _ _ => ⟨.box t d, v⟩
  | a => ⟨a, v⟩

/-- the content of a root -/
@[simp] def rootOf (r : Nat) (k : Cl → T → D → Bool → A) : A :=
  .ask r fun c => match c.root with
    | some (t, d, bx) => k c t d bx
    | none => .fail

@[simp] def look : Wr → Nat → Option Cl
  | [], _ => none
  | (r, c) :: ws, s => match look ws s with
    | some c => some c
    | none => if r = s then some c else none

/-- a slot behind writes -/
@[simp] def askW (ws : Wr) (s : Nat) (k : Cl → A) : A :=
  match look ws s with
  | some c => k c
  | none => .ask s k

/-- take a value for good, behind writes; an empty list is of the kind that is wanted -/
@[simp] def takeW (ws : Wr) (want : T) (x : Operand) (k : T → D → Wr → A) : A :=
  match x with
  | .tmp t => askW ws t fun c => match c.av with
    | .val ty d => if ty.plain then k ty d [] else k ty d [(t, ⟨.undef, c.v.kill⟩)]
    | .ref r v p ty d => askW ws r fun cr => match cr.root with
      | some (tr, dr, _) =>
        .need (liveRef v cr.v 0 ∧ tr.flat p = true ∧ tr.at p = ty) (k ty (D.mix ty d (dr.get p)) [(r, cr.setRoot (tr.set p ty.moved) dr cr.v.head)])
      | none => .fail
    | .nil => match want with
      | .lst _ e => k (.lst true e) (.lst []) []
      | _ => .fail
    | _ => .fail
  | _ => opd x fun a => match a with
    | .val ty d => k ty d []
    | .nil => match want with
      | .lst _ e => k (.lst true e) (.lst []) []
      | _ => .fail
    | _ => .fail

@[simp] def take (want : T) (x : Operand) (k : T → D → Wr → A) : A := takeW [] want x k

@[simp] def T.zero : T → D
  | .int _ => .int 0
  | .bool => .bool false
  | .str => .str []
  | .pair a b => .pair a.zero b.zero
  | .lst _ _ => .lst []
  | _ => .unit

@[simp] def opMove (dst : Option Nat) (x : Operand) : A :=
  match x with
  | .tmp t => .ask t fun c => match c.av with
    | .tup u d => match dst with
      | none => .fail
      | some s => .ask s fun c' => .need (s < Γ.n ∧ s ∉ Γ.fx ∧ t ≠ s) (.ret [(t, ⟨.undef, c.v.kill⟩), (s, ⟨.tup u d, c'.v.kill⟩)])
    | _ => out Γ dst (copyOf t c)
  | _ => opd x (out Γ dst)

@[simp] def nilTo (dst : Option Nat) (ty : TypeId) : A :=
  match Γ.ty ty with
  | .lst true e => out Γ dst (.val (.lst true e) (.lst []))
  | _ => .fail

@[simp] def opAssign (dst : Option Nat) (ty : TypeId) (x : Operand) : A :=
  match dst with
  | none => .fail
  | some s => match x with
    | .tmp t => .ask t fun c => match c.av with
      | .val u d => .ask s fun c' => .need (s < Γ.n ∧ s ∉ Γ.fx) (if u.plain then .ret [(s, ⟨.val u d, c'.v.kill⟩)] else .need (t ≠ s) (.ret [(t, ⟨.undef, c.v.kill⟩), (s, ⟨.val u d, c'.v.kill⟩)]))
      | .nil => nilTo Γ dst ty
      | _ => out Γ dst (copyOf t c)
    | _ => opd x fun a => match a with
      | .nil => nilTo Γ dst ty
      | a => out Γ dst a

@[simp] def opLoad (dst : Option Nat) (t : TypeId) (x : Operand) : A := opd x fun a => match a with
  | .ptr r v p => rootOf r fun cr tr dr bx =>
      .need (livePtr v cr.v (depth p) ∧ Ok tr dr p ∧ (bx = true ∨ depth p ≠ 0) ∧ (tr.at p).view = (Γ.ty t).view ∧ (Γ.ty t).ok = true)
        (if (tr.at p).plain then out Γ dst (.val (tr.at p) (dr.get p)) else out Γ dst (.ref r cr.v p (tr.at p) (dr.get p)))
  | .val (.ptr e) d => .need (e.view = (Γ.ty t).view ∧ (Γ.ty t).ok = true) (out Γ dst (.val e d))
  | _ => .fail

@[simp] def opStore (t : TypeId) (x y : Operand) : A := opd x fun a => match a with
  | .ptr r v p => rootOf r fun cr tr dr bx =>
      .need (livePtr v cr.v (depth p) ∧ Ok tr dr p ∧ (bx = true ∨ depth p ≠ 0))
        (take (Γ.ty t) y fun ty d ws =>
          .need (ty.view = (Γ.ty t).view ∧ (Γ.ty t).ok = true ∧ ty.size ≠ 0 ∧ r ∉ ws.map (·.1))
            (if ty.plain = true ∧ tr.at p = ty then .ret (ws ++ [(r, cr.setRoot tr (dr.set p d) cr.v.cont)])
             else if depth p = 0 then .need ((tr.at p).shape = ty.shape) (.ret (ws ++ [(r, cr.setRoot (tr.set p ty) (dr.set p d) cr.v.head)]))
             else .need (tr.at p = ty) (.ret (ws ++ [(r, cr.setRoot tr (dr.set p d) cr.v.cont)]))))
  | _ => .fail

@[simp] def opField (dst : Option Nat) (t : TypeId) (x : Operand) (j : Nat) : A := opd x fun a => match a with
  | .val ty d => .need (ty.plain = true ∧ ty.view = (Γ.ty t).view ∧ ty.has j = true) (out Γ dst (.val (ty.fld j) (d.fld j)))
  | .ref r v p ty d => rootOf r fun cr tr dr _ =>
      .need (liveRef v cr.v (depth p) ∧ tr.at p = ty ∧ Ok tr dr p ∧ ty.view = (Γ.ty t).view ∧ ty.has j = true)
        (if (ty.fld j).plain then out Γ dst (.val (ty.fld j) (d.fld j)) else out Γ dst (.ref r v (p ++ [.f j]) (ty.fld j) (d.fld j)))
  | _ => .fail

@[simp] def opFieldAddr (dst : Option Nat) (t : TypeId) (x : Operand) (j : Nat) : A := opd x fun a => match a with
  | .ptr r v p => rootOf r fun cr tr dr bx =>
      .need (livePtr v cr.v (depth p) ∧ Ok tr dr p ∧ (bx = true ∨ depth p ≠ 0) ∧ (tr.at p).shape = (Γ.ty t).shape ∧ (Γ.ty t).has j = true ∧ ((Γ.ty t).fld j).size ≠ 0) (out Γ dst (.ptr r cr.v (p ++ [.f j])))
  | .val (.ptr e) d => .need (e.view = (Γ.ty t).view ∧ e.has j = true ∧ (e.fld j).size ≠ 0) (out Γ dst (.val (.ptr (e.fld j)) (d.fld j)))
  | _ => .fail

@[simp] def opIndexAddr (dst : Option Nat) (t : TypeId) (x y : Operand) : A := opd x fun a => opd y fun b => match b with
  | .val (.int _) n => match a with
    | .ref r v p (.lst true e) _ => rootOf r fun cr tr dr _ =>
        .need (liveRef v cr.v (depth p) ∧ tr.at p = .lst true e ∧ Ok tr dr p ∧ e.view = (Γ.ty t).elem.view ∧ (Γ.ty t).lsts = true ∧ 0 ≤ n.i ∧ n.i < (dr.get p).l.length) (out Γ dst (.ptr r cr.v (p ++ [.i n.i.toNat])))
    | .win r v p e lo m => rootOf r fun cr tr dr _ =>
        .need (liveRef v cr.v (depth p) ∧ tr.at p = .lst true e ∧ Ok tr dr p ∧ e.view = (Γ.ty t).elem.view ∧ (Γ.ty t).lsts = true ∧ 0 ≤ n.i ∧ n.i < m ∧ lo + m ≤ (dr.get p).l.length) (out Γ dst (.ptr r cr.v (p ++ [.i (lo + n.i.toNat)])))
    | .val (.lst false e) d => .need (e.view = (Γ.ty t).elem.view ∧ (Γ.ty t).lsts = true ∧ 0 ≤ n.i ∧ n.i < d.l.length) (out Γ dst (.val (.ptr e) (d.nth n.i.toNat)))
    | _ => .fail
  | _ => .fail

end
end Go.Own
