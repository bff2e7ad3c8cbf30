/- A layer over the walk: what lies in memory as plain data, each operation by what it does to data; part 3. -/
import Derived.Test.YtkogmjbmbpcbeaaGreatDoorOwD
set_option linter.unusedSectionVars false
set_option linter.unusedVariables false
set_option linter.unusedSimpArgs false
namespace Go.Own
noncomputable section
def D.i : D → Int
 | .int n => n
 | _ => 0
def D.b : D → Bool
 | .bool b => b
 | _ => false
def D.s : D → List UInt8
 | .str s => s
 | _ => []
@[simp] theorem D.i_int (n : Int) : (D.int n).i = n := rfl
@[simp] theorem D.b_bool (b : Bool) : (D.bool b).b = b := rfl
@[simp] theorem D.s_str (s : List UInt8) : (D.str s).s = s := rfl
def T.eqs : T → Bool
 | .unit => true
 | .int _ => true
 | .bool => true
 | .str => true
 | .pair a b => a.eqs && (b.agg && b.eqs)
 | _ => false
def T.dep : T → Nat
 | .pair a b => max (a.dep + 1) b.dep
 | _ => 0
def D.beq : D → D → Bool
 | .unit, .unit => true
 | .int a, .int b => a == b
 | .bool a, .bool b => a == b
 | .str a, .str b => a == b
 | .pair a b, .pair c d => a.beq c && b.beq d
 | _, _ => false
def T.eqsOk (t : T) : Bool := t.eqs && (t.agg && decide (t.dep < 10000))
inductive Mode where
 | vw | own | io | iop
 deriving DecidableEq, Inhabited
structure Arg where
 m : Mode
 t : T
 d : D
 deriving Inhabited
abbrev Wr := List (Nat × Cl)
inductive Res where
 | one (t : T) (d : D)
 | many (t : T) (d : D)
@[simp] def T.noview : T → Bool
 | .pair a b => a.noview && b.noview
 | .lst o e => o && e.noview
 | .ptr _ => false
 | .fn _ _ => false
 | _ => true
@[simp] def Res.noview : Res → Bool
 | .one t _ => t.noview
 | .many t _ => t.noview
@[simp] def Res.av : Res → AV
 | .one t d => .val t d
 | .many t d => .tup t d
inductive A where
 | ret (w : Wr)
 | ask (s : Nat) (k : Cl → A)
 | need (p : Prop) (k : A)
 | call (g : FuncId) (as : List Arg) (dom : List Nat) (nv : Bool) (k : Res → List D → Wr)
 | two (p : Prop) (k : Bool → A)
 | fail
abbrev Ctr := FuncId → List Arg → (Res → List D → Prop) → Prop
def A.wp (X : Ctr) : A → St → (Wr → Prop) → Prop
 | .ret w, _, K => K w
 | .ask s k, S, K => (k (S s)).wp X S K
 | .need p k, S, K => p ∧ k.wp X S K
 | .call g as dom nv k, _, K => ∃ Post, X g as Post ∧ (∃ r o, Post r o) ∧ ∀ r o, Post r o → (nv = true → r.noview = true) ∧ (k r o).map (·.1) = dom ∧ K (k r o)
 | .two p k, S, K => (p → (k true).wp X S K) ∧ (k false).wp X S K
 | .fail, _, _ => False
def A.reads : A → St → List Nat
 | .ask s k, S => s :: (k (S s)).reads S
 | .need _ k, S => k.reads S
 | _, _ => []
def A.dom : A → St → List Nat
 | .ret w, _ => w.map (·.1)
 | .ask s k, S => (k (S s)).dom S
 | .need _ k, S => k.dom S
 | .call _ _ dom _ _, _ => dom
 | .two _ k, S => (k false).dom S
 | .fail, _ => []
def St.apply (S : St) : Wr → St
 | [] => S
 | (s, c) :: w => (S.put s c).apply w
structure Env where
 ty : TypeId → T
 eb : TypeId → Nat
 sig : FuncId → List Mode
 n : Nat
 fx : List Nat
 fr : List Nat
 deriving Inhabited
def AV.off (d : Nat) : AV → Prop
 | .ref r .. => r ≠ d
 | .win r .. => r ≠ d
 | .ptr r .. => r ≠ d
 | .bref _ _ r .. => r ≠ d
 | .clo _ l => ∀ c ∈ l, match c with | .ptr r _ _ => r ≠ d | _ => True
 | _ => True
@[simp] def nv0 (v : Ver) : Ver := ⟨v.id, 0, 0⟩
def nvp (v : Ver) (m : Nat) : Ver := match m with
 | 0 => nv0 v
 | _ => v
@[simp] def zLs (t : Nat) (v : Ver) (ty : T) (d : D) : AV := match ty with
 | .lst true e => .ref t ⟨v.id, v.v0, 0⟩ [] (.lst true e) (.lst [])
 | ty => .ref t v [] ty d
@[simp] def z4n (t : Nat) (c : Cl) : AV :=
 match c.av with
 | .val ty d => if ty.plain then .val ty d else zLs t c.v ty d
 | .box _ _ => .ptr t (nv0 c.v) []
 | .bref _ _ _ _ _ => .ptr t (nv0 c.v) []
 | .tup _ _ => .undef
 | a => a
@[simp] def opd (x : Operand) (k : AV → A) : A :=
 match x with
 | .tmp t => .ask t fun c => k (z4n t c)
 | .const (.int kd n) => .need (kd.min ≤ n ∧ n ≤ kd.max) (k (.val (.int kd) (.int n)))
 | .const (.bool b) => k (.val .bool (.bool b))
 | .const (.string s) => .need (s.size ≤ smax) (k (.val .str (.str s.data.toList)))
 | .const (.slice none 0 0) => k .nil
 | .const .nilIface => k (.val .err (.bool false))
 | .func f => k (.clo f [])
 | _ => .fail
variable (Γ : Env)
@[simp] def out (dst : Option Nat) (a : AV) : A :=
 match dst with
 | none => .ret []
 | some d => .ask d fun c => .need (d < Γ.n ∧ d ∉ Γ.fx ∧ a.off d) (.ret [(d, ⟨a, c.v.kill⟩)])
@[simp] def D.mixR : T → D → D → D
 | .pair t u, d, c => .pair (D.mixR t d.fst c.fst) (D.mixR u d.snd c.snd)
 | .lst true _, _, c => c
 | .unit, _, _ => .unit
 | _, d, _ => d
open Classical in
noncomputable def D.mix (t : T) (d c : D) : D := if d = c then c else D.mixR t d c
def Cl.setRoot (c : Cl) (t : T) (d : D) (v : Ver) : Cl :=
 match c.av with
 | .val _ _ => ⟨.val t d, v⟩
 | .tup _ _ => ⟨.tup t d, v⟩
 | .box _ _ => ⟨.box t d, v⟩
 | .bref _ _ _ _ _ => ⟨.box t d, v⟩
 | a => ⟨a, v⟩
@[simp] def rootOf (r : Nat) (k : Cl → T → D → Bool → A) : A :=
 .ask r fun c => match c.root with
  | some (t, d, bx) => k c t d bx
  | none => .fail
@[simp] def look : Wr → Nat → Option Cl
 | [], _ => none
 | (r, c) :: ws, s => match look ws s with
   | some c => some c
   | none => if r = s then some c else none
@[simp] def askW (ws : Wr) (s : Nat) (k : Cl → A) : A :=
 match look ws s with
 | some c => k c
 | none => .ask s k
@[simp] def takeW (ws : Wr) (want : T) (x : Operand) (k : T → D → Wr → A) : A :=
 match x with
 | .tmp t => askW ws t fun c => match c.av with
   | .val ty d => if ty.plain then k ty d [] else k ty d [(t, ⟨.undef, c.v.kill⟩)]
   | .ref r v p ty d => askW ws r fun cr => match cr.root with
     | some (tr, dr, _) =>
       .need (z1Q v cr.v 0 ∧ tr.flat p = true ∧ tr.at p = ty) (k ty (D.mix ty d (dr.get p)) [(r, cr.setRoot (tr.set p ty.moved) dr cr.v.head)])
     | none => .fail
   | .win r v p e lo n => askW ws r fun cr => match cr.root with
     | some (tr, dr, _) =>
       .need (z1Q v cr.v 0 ∧ tr.flat p = true ∧ tr.at p = .lst true e ∧ lo + n ≤ (dr.get p).l.length) (k (.lst true e) (.lst (((dr.get p).l.drop lo).take n)) [(r, cr.setRoot (tr.set p .gone) dr cr.v.head)])
     | none => .fail
   | .nil => match want with
     | .lst _ e => k (.lst true e) (.lst []) []
     | _ => .fail
   | _ => .fail
 | _ => opd x fun a => match a with
   | .val ty d => k ty d []
   | .nil => match want with
     | .lst _ e => k (.lst true e) (.lst []) []
     | _ => .fail
   | _ => .fail
@[simp] def take (want : T) (x : Operand) (k : T → D → Wr → A) : A := takeW [] want x k
@[simp] def T.zero : T → D
 | .int _ => .int 0
 | .bool => .bool false
 | .str => .str []
 | .pair a b => .pair a.zero b.zero
 | .lst _ _ => .lst []
 | .err => .bool false
 | _ => .unit
@[simp] def z7X (dst : Option Nat) (x : Operand) : A :=
 match x with
 | .tmp t => .ask t fun c => match c.av with
   | .tup u d => match dst with
     | none => .fail
     | some s => .ask s fun c' => .need (s < Γ.n ∧ s ∉ Γ.fx ∧ t ≠ s) (.ret [(t, ⟨.undef, c.v.kill⟩), (s, ⟨.tup u d, c'.v.kill⟩)])
   | _ => out Γ dst (z4n t c)
 | _ => opd x (out Γ dst)
@[simp] def nilTo (dst : Option Nat) (ty : TypeId) : A :=
 match Γ.ty ty with
 | .lst true e => out Γ dst (.val (.lst true e) (.lst []))
 | _ => .fail
@[simp] def z8e (dst : Option Nat) (ty : TypeId) (x : Operand) : A :=
 match dst with
 | none => .fail
 | some s => match x with
   | .tmp t => .ask t fun c => match c.av with
     | .val u d => .ask s fun c' => .need (s < Γ.n ∧ s ∉ Γ.fx) (if u.plain then .ret [(s, ⟨.val u d, c'.v.kill⟩)] else .need (t ≠ s) (.ret [(t, ⟨.undef, c.v.kill⟩), (s, ⟨.val u d, c'.v.kill⟩)]))
     | .nil => nilTo Γ dst ty
     | .ref r _ _ ty _ => if s ∈ Γ.fr ∨ r = s then .need (s < Γ.n ∧ s ∉ Γ.fx) (take ty (.tmp t) fun ty' d' ws => askW ws s fun c' => .ret (ws ++ [(s, ⟨.val ty' d', c'.v.kill⟩)])) else out Γ dst (z4n t c)
     | .win r _ _ e _ _ => if s ∈ Γ.fr ∨ r = s then .need (s < Γ.n ∧ s ∉ Γ.fx) (take (.lst true e) (.tmp t) fun ty' d' ws => askW ws s fun c' => .ret (ws ++ [(s, ⟨.val ty' d', c'.v.kill⟩)])) else out Γ dst (z4n t c)
     | _ => out Γ dst (z4n t c)
   | _ => opd x fun a => match a with
     | .nil => nilTo Γ dst ty
     | a => out Γ dst a
@[simp] def zDg (dst : Option Nat) (t : TypeId) (x : Operand) : A := opd x fun a => match a with
 | .ptr r v p => rootOf r fun cr tr dr bx =>
    .need (z3t v cr.v (depth p) ∧ Ok tr dr p ∧ (bx = true ∨ depth p ≠ 0) ∧ (tr.at p).view = (Γ.ty t).view ∧ (Γ.ty t).ok = true)
     (if (tr.at p).plain then out Γ dst (.val (tr.at p) (dr.get p)) else out Γ dst (.ref r cr.v p (tr.at p) (dr.get p)))
 | .val (.ptr e) d => .need (e.view = (Γ.ty t).view ∧ (Γ.ty t).ok = true) (out Γ dst (.val e d))
 | _ => .fail
@[simp] def z6o (t : TypeId) (x y : Operand) : A := opd x fun a => match a with
 | .ptr r v p => rootOf r fun cr tr dr bx =>
    .need (z3t v cr.v (depth p) ∧ Ok tr dr p ∧ (bx = true ∨ depth p ≠ 0))
     (take (Γ.ty t) y fun ty d ws =>
       .need (ty.view = (Γ.ty t).view ∧ (Γ.ty t).ok = true ∧ ty.size ≠ 0 ∧ r ∉ ws.map (·.1))
        (if ty.plain = true ∧ tr.at p = ty then .ret (ws ++ [(r, cr.setRoot tr (dr.set p d) cr.v)])
         else if depth p = 0 then .need ((tr.at p).shape = ty.shape) (.ret (ws ++ [(r, cr.setRoot (tr.set p ty) (dr.set p d) cr.v.head)]))
         else .need (tr.at p = ty) (.ret (ws ++ [(r, cr.setRoot tr (dr.set p d) cr.v.cont)]))))
 | _ => .fail
@[simp] def z6n (dst : Option Nat) (t : TypeId) (x : Operand) : A :=
 match x with
 | .tmp s => .ask s fun c => match c.av with
   | .bref ty d r v p => if ty.plain then zDg Γ dst t x else .ask r fun cr => match cr.root with
     | some (tr, dr, _) => .need (z1Q v cr.v (depth p) ∧ tr.at p = ty ∧ Ok tr dr p ∧ ty.view = (Γ.ty t).view ∧ (Γ.ty t).ok = true) (out Γ dst (.ref r v p ty d))
     | none => .fail
   | _ => zDg Γ dst t x
 | _ => zDg Γ dst t x
@[simp] def zCA (dst : Option Nat) (t : TypeId) (x : Operand) : A :=
 match x with
 | .tmp s => .ask s fun c => match c.av with
   | .ptr r0 v0 q => .ask r0 fun c0 => match c0.av with
     | .bref ty d r v p => if ty.flat q = false ∨ (ty.at q).plain = true then z6n Γ dst t x else .ask r fun cr => match cr.root with
       | some (tr, dr, _) => .need (z3t v0 c0.v 0 ∧ z1Q v cr.v (depth p) ∧ tr.at p = ty ∧ Ok tr dr p ∧ (ty.at q).view = (Γ.ty t).view ∧ (Γ.ty t).ok = true) (out Γ dst (.ref r v (p ++ q) (ty.at q) (d.get q)))
       | none => .fail
     | _ => z6n Γ dst t x
   | _ => z6n Γ dst t x
 | _ => z6n Γ dst t x
@[simp] def z5D (t : TypeId) (x y : Operand) : A :=
 match x, y with
 | .tmp s, .tmp u => .ask s fun c => match c.root with
   | some (tb, _, true) => .ask u fun cu => match cu.av with
     | .ref r v p ty d => .ask r fun cr => match cr.root with
       | some (tr, dr, _) => if tr.flat p = false ∨ u ∈ Γ.fr then
          .need (z1Q v cr.v (depth p) ∧ tr.at p = ty ∧ Ok tr dr p ∧ ty.agg = true ∧ tb.shape = ty.shape ∧ ty.view = (Γ.ty t).view ∧ (Γ.ty t).ok = true ∧ ty.size ≠ 0 ∧ r ≠ s ∧ s < Γ.n) (.ret [(s, ⟨.bref ty d r v p, c.v.head⟩)])
         else z6o Γ t x y
       | none => z6o Γ t x y
     | _ => z6o Γ t x y
   | _ => z6o Γ t x y
 | _, _ => z6o Γ t x y
@[simp] def z8f (t : TypeId) (x y : Operand) : A :=
 match x, y with
 | .tmp s, .tmp u => .ask u fun cu => match cu.av with
   | .win r0 _ _ _ _ _ => .ask s fun c => match z4n s c with
     | .ptr r _ _ => if r = r0 then take (Γ.ty t) y fun ty d ws => askW ws s fun c' => match z4n s c' with
        | .ptr r' v' p' => askW ws r' fun cr => match cr.root with
          | some (tr, dr, bx) => .need (z3t v' cr.v (depth p') ∧ Ok tr dr p' ∧ bx = true ∧ depth p' = 0 ∧ ty.view = (Γ.ty t).view ∧ (Γ.ty t).ok = true ∧ ty.size ≠ 0 ∧ (tr.at p').shape = ty.shape)
             (.ret (ws ++ [(r', cr.setRoot (tr.set p' ty) (dr.set p' d) cr.v.head)]))
          | none => .fail
        | _ => .fail
       else z5D Γ t x y
     | _ => z5D Γ t x y
   | _ => z5D Γ t x y
 | _, _ => z5D Γ t x y
@[simp] def zEX (dst : Option Nat) (t : TypeId) (x : Operand) (j : Nat) : A := opd x fun a => match a with
 | .val ty d => .need (ty.plain = true ∧ ty.view = (Γ.ty t).view ∧ ty.has j = true) (out Γ dst (.val (ty.fld j) (d.fld j)))
 | .ref r v p ty d => rootOf r fun cr tr dr _ =>
    .need (z1Q v cr.v (depth p) ∧ tr.at p = ty ∧ Ok tr dr p ∧ ty.view = (Γ.ty t).view ∧ ty.has j = true)
     (if (ty.fld j).plain then out Γ dst (.val (ty.fld j) (d.fld j)) else out Γ dst (.ref r v (p ++ [.f j]) (ty.fld j) (d.fld j)))
 | _ => .fail
@[simp] def z2t (dst : Option Nat) (t : TypeId) (x : Operand) (j : Nat) : A := opd x fun a => match a with
 | .ptr r v p => rootOf r fun cr tr dr bx =>
    .need (z3t v cr.v (depth p) ∧ Ok tr dr p ∧ (bx = true ∨ depth p ≠ 0) ∧ (tr.at p).shape = (Γ.ty t).shape ∧ (Γ.ty t).has j = true ∧ ((Γ.ty t).fld j).size ≠ 0) (out Γ dst (.ptr r (nvp cr.v (depth p)) (p ++ [.f j])))
 | .val (.ptr e) d => .need (e.view = (Γ.ty t).view ∧ e.has j = true ∧ (e.fld j).size ≠ 0) (out Γ dst (.val (.ptr (e.fld j)) (d.fld j)))
 | _ => .fail
@[simp] def z60 (dst : Option Nat) (t : TypeId) (x y : Operand) : A := opd x fun a => opd y fun b => match b with
 | .val (.int _) n => match a with
   | .ref r v p (.lst true e) _ => rootOf r fun cr tr dr _ =>
      .need (z1Q v cr.v (depth p) ∧ tr.at p = .lst true e ∧ Ok tr dr p ∧ e.view = (Γ.ty t).elem.view ∧ (Γ.ty t).lsts = true ∧ 0 ≤ n.i ∧ n.i < (dr.get p).l.length) (out Γ dst (.ptr r cr.v (p ++ [.i n.i.toNat])))
   | .win r v p e lo m => rootOf r fun cr tr dr _ =>
      .need (z1Q v cr.v (depth p) ∧ tr.at p = .lst true e ∧ Ok tr dr p ∧ e.view = (Γ.ty t).elem.view ∧ (Γ.ty t).lsts = true ∧ 0 ≤ n.i ∧ n.i < m ∧ lo + m ≤ (dr.get p).l.length) (out Γ dst (.ptr r cr.v (p ++ [.i (lo + n.i.toNat)])))
   | .val (.lst false e) d => .need (e.view = (Γ.ty t).elem.view ∧ (Γ.ty t).lsts = true ∧ 0 ≤ n.i ∧ n.i < d.l.length) (out Γ dst (.val (.ptr e) (d.nth n.i.toNat)))
   | _ => .fail
 | _ => .fail
end
end Go.Own
namespace Go.Own
noncomputable section
variable (Γ : Env)
@[simp] def zKv (dst : Option Nat) (t : TypeId) (x : Operand) : A := opd x fun a => match a with
 | .val .str d => .need (Γ.ty t = .str) (out Γ dst (.val (.int .i64) (.int d.s.length)))
 | .val (.lst _ _) d => .need ((Γ.ty t).lsts = true) (out Γ dst (.val (.int .i64) (.int d.l.length)))
 | .ref r v p (.lst true e) _ => rootOf r fun cr tr dr _ =>
    .need (z1Q v cr.v (depth p) ∧ tr.at p = .lst true e ∧ Ok tr dr p ∧ (Γ.ty t).lsts = true) (out Γ dst (.val (.int .i64) (.int (dr.get p).l.length)))
 | .win r v p e lo n => rootOf r fun cr tr dr _ =>
    .need (z1Q v cr.v (depth p) ∧ tr.at p = .lst true e ∧ Ok tr dr p ∧ (Γ.ty t).lsts = true ∧ n ≤ smax) (out Γ dst (.val (.int .i64) (.int n)))
 | .nil => .need ((Γ.ty t).lsts = true) (out Γ dst (.val (.int .i64) (.int 0)))
 | _ => .fail
def byteAt (s : List UInt8) (i : Nat) : Nat := (s.getD i 0).toNat
@[simp] def zEY (dst : Option Nat) (t : TypeId) (x y : Operand) : A := opd x fun a => opd y fun b => match a, b with
 | .val .str d, .val (.int _) n => .need (Γ.ty t = .str ∧ 0 ≤ n.i ∧ n.i < d.s.length) (out Γ dst (.val (.int .u8) (.int (byteAt d.s n.i.toNat))))
 | _, _ => .fail
@[simp] def zKw (dst : Option Nat) (x : Operand) : A := opd x fun a => match a with
 | .ptr r v p => rootOf r fun cr tr dr bx => .need (z3t v cr.v (depth p) ∧ Ok tr dr p ∧ (bx = true ∨ depth p ≠ 0)) (out Γ dst (.ptr r cr.v p))
 | .val (.ptr e) d => out Γ dst (.val (.ptr e) d)
 | _ => .fail
@[simp] def zHn (dst : Option Nat) (c x y : Operand) : A := opd c fun c => opd x fun a => opd y fun b => match c, a, b with
 | .val .bool d, .val t d1, .val u d2 => if t = u then out Γ dst (.val t (if d.b then d1 else d2)) else if d.b then out Γ dst (.val t d1) else out Γ dst (.val u d2)
 | .val .bool d, a, b => if d.b then out Γ dst a else out Γ dst b
 | _, _, _ => .fail
@[simp] def opUn (dst : Option Nat) (op : UnOp) (x : Operand) : A := opd x fun a => match op, a with
 | .not, .val .bool d => out Γ dst (.val .bool (.bool !d.b))
 | .neg, .val (.int k) d => out Γ dst (.val (.int k) (.int (k.wrap (0 - d.i))))
 | _, _ => .fail
@[simp] def zEz (op : BinOp) (k : IntKind) (x y : Int) : Option (Prop × T × D) :=
 match op with
 | .add => some (True, .int k, .int (k.wrap (x + y)))
 | .sub => some (True, .int k, .int (k.wrap (x - y)))
 | .mul => some (True, .int k, .int (k.wrap (x * y)))
 | .quo => some (y ≠ 0, .int k, .int (k.wrap (x.tdiv y)))
 | .rem => some (y ≠ 0, .int k, .int (x.tmod y))
 | .and => some (True, .int k, .int (k.wrap ((BitVec.ofInt k.bits x &&& BitVec.ofInt k.bits y).toNat)))
 | .or => some (True, .int k, .int (k.wrap ((BitVec.ofInt k.bits x ||| BitVec.ofInt k.bits y).toNat)))
 | .xor => some (True, .int k, .int (k.wrap ((BitVec.ofInt k.bits x ^^^ BitVec.ofInt k.bits y).toNat)))
 | .andNot => some (True, .int k, .int (k.wrap ((BitVec.ofInt k.bits x &&& ~~~BitVec.ofInt k.bits y).toNat)))
 | .eql => some (True, .bool, .bool (x == y))
 | .neq => some (True, .bool, .bool (x != y))
 | .lss => some (True, .bool, .bool (x < y))
 | .leq => some (True, .bool, .bool (x ≤ y))
 | .gtr => some (True, .bool, .bool (x > y))
 | .geq => some (True, .bool, .bool (x ≥ y))
 | _ => none
@[simp] def zHL (op : BinOp) (x y : List UInt8) : Option (Prop × T × D) :=
 match op with
 | .add => some (x.length + y.length ≤ smax, .str, .str (x ++ y))
 | .eql => some (True, .bool, .bool (x == y))
 | .neq => some (True, .bool, .bool !(x == y))
 | .lss => some (True, .bool, .bool (Op.bytesLess x y))
 | .leq => some (True, .bool, .bool (Op.bytesLess x y || x == y))
 | .gtr => some (True, .bool, .bool !(Op.bytesLess x y || x == y))
 | .geq => some (True, .bool, .bool !(Op.bytesLess x y))
 | _ => none
@[simp] def zIb (dst : Option Nat) (op : BinOp) (t : TypeId) (x y : Operand) : A := opd x fun a => opd y fun b => match a, b with
 | .val (.int k) m, .val (.int k') n =>
   if op = .shl then .need (0 ≤ n.i) (out Γ dst (.val (.int k) (.int (k.wrap (m.i * 2 ^ min n.i.toNat k.bits)))))
   else if op = .shr then .need (0 ≤ n.i) (out Γ dst (.val (.int k) (.int (m.i.fdiv (2 ^ min n.i.toNat k.bits)))))
   else .need (k = k') (match zEz op k m.i n.i with
    | some (p, t, d) => .need p (out Γ dst (.val t d))
    | none => .fail)
 | .val .str m, .val .str n => match zHL op m.s n.s with
    | some (p, t, d) => .need p (out Γ dst (.val t d))
    | none => .fail
 | .val .bool m, .val .bool n => match op with
    | .eql => .need (Γ.ty t = .bool) (out Γ dst (.val .bool (.bool (m.b == n.b))))
    | .neq => .need (Γ.ty t = .bool) (out Γ dst (.val .bool (.bool !(m.b == n.b))))
    | _ => .fail
 | .val .err m, .val .err _ => match op, y with
    | .eql, .const .nilIface => .need (Γ.ty t = .err) (out Γ dst (.val .bool (.bool !m.b)))
    | .neq, .const .nilIface => .need (Γ.ty t = .err) (out Γ dst (.val .bool (.bool m.b)))
    | _, _ => .fail
 | .val (.lst _ _) d, .nil => match op with
    | .eql => .need ((Γ.ty t).lsts = true) (.two (d.l = []) fun b => out Γ dst (.val .bool (.bool b)))
    | .neq => .need ((Γ.ty t).lsts = true) (.two (d.l = []) fun b => out Γ dst (.val .bool (.bool !b)))
    | _ => .fail
 | _, _ => .fail
@[simp] def zKu (dst : Option Nat) (op : BinOp) (t : TypeId) (x y : Operand) : A := opd x fun a => opd y fun b => match a, b with
 | .val τ m, .val u n => match op with
   | .eql => .need (τ = Γ.ty t ∧ u = Γ.ty t ∧ (Γ.ty t).eqsOk = true) (out Γ dst (.val .bool (.bool (m.beq n))))
   | .neq => .need (τ = Γ.ty t ∧ u = Γ.ty t ∧ (Γ.ty t).eqsOk = true) (out Γ dst (.val .bool (.bool !(m.beq n))))
   | _ => .fail
 | _, _ => .fail
@[simp] def z1q (dst : Option Nat) (x : Operand) (j : Nat) : A :=
 match x, dst with
 | .tmp t, some s => .ask t fun c => match c.av with
   | .tup ty d => .need (ty.has j = true) (if (ty.fld j).plain then out Γ (some s) (.val (ty.fld j) (d.fld j))
      else .ask s fun c' => .need (s < Γ.n ∧ s ∉ Γ.fx ∧ t ≠ s) (.ret [(t, ⟨.tup (ty.set [.f j] (ty.fld j).moved) d, c.v.kill⟩), (s, ⟨.val (ty.fld j) (d.fld j), c'.v.kill⟩)]))
   | _ => .fail
 | _, _ => .fail
end
end Go.Own
namespace Go.Own
noncomputable section
variable (Γ : Env)
@[simp] def zEV (dst : Option Nat) (t : TypeId) : A := .need ((Γ.ty t).ok = true) (out Γ dst (.box (Γ.ty t) (Γ.ty t).zero))
@[simp] def zJk (dst : Option Nat) (t : TypeId) (x : Operand) : A :=
 match dst with
 | none => .fail
 | some d => .ask d fun cd => .need (d < Γ.n ∧ d ∉ Γ.fx ∧ (Γ.ty t).ok = true) (match x with
   | .tmp s => .ask s fun c => match c.av with
     | .val ty dd => .need (ty.view = (Γ.ty t).view ∧ s ≠ d)
        (if ty.plain then .ret [(d, ⟨.box ty dd, cd.v.kill⟩)] else .ret [(s, ⟨.undef, c.v.kill⟩), (d, ⟨.box ty dd, cd.v.kill⟩), (s, ⟨.ref d cd.v.kill [] ty dd, c.v.kill.kill⟩)])
     | _ => take (Γ.ty t) x fun ty dd ws => .need (ty.view = (Γ.ty t).view ∧ d ∉ ws.map (·.1)) (.ret (ws ++ [(d, ⟨.box ty dd, cd.v.kill⟩)]))
   | _ => take (Γ.ty t) x fun ty dd ws => .need (ty.view = (Γ.ty t).view ∧ d ∉ ws.map (·.1)) (.ret (ws ++ [(d, ⟨.box ty dd, cd.v.kill⟩)])))
@[simp] def takes (T0 : T) : List (Nat × Operand) → T → D → Wr → (T → D → Wr → A) → A
 | [], t, d, ws, k => k t d ws
 | (j, x) :: ps, t, d, ws, k => takeW ws (T0.fld j) x fun ty dd ws' =>
     .need (T0.has j = true ∧ ty.view = (T0.fld j).view ∧ (T0.fld j).sound = true) (takes T0 ps (t.setFld j ty) (d.setFld j dd) (ws ++ ws') k)
@[simp] def zC6 (dst : Option Nat) (t : TypeId) (z1N : List (Nat × Operand)) : A :=
 match dst with
 | none => .fail
 | some d => .ask d fun cd => .need (d < Γ.n ∧ d ∉ Γ.fx ∧ (Γ.ty t).agg = true) (takes (Γ.ty t) z1N (Γ.ty t) (Γ.ty t).zero [] fun ty dd ws =>
    .need (d ∉ ws.map (·.1)) (.ret (ws ++ [(d, ⟨.val ty dd, cd.v.kill⟩)])))
@[simp] def takeEls (e0 : T) : List (Nat × Operand) → Nat → Option T → List D → Wr → (T → List D → Wr → A) → A
 | [], _, e, xs, ws, k => k (e.getD e0) xs ws
 | (j, x) :: ps, i, e, xs, ws, k => takeW ws e0 x fun ty dd ws' =>
     .need (j = i ∧ (∀ u, e = some u → ty = u) ∧ ty.view = e0.view) (takeEls e0 ps (i + 1) (some ty) (xs ++ [dd]) (ws ++ ws') k)
@[simp] def z4O (dst : Option Nat) (t : TypeId) (len : Nat) (z1N : List (Nat × Operand)) : A :=
 match dst with
 | none => .fail
 | some d => .ask d fun cd => .need (d < Γ.n ∧ d ∉ Γ.fx ∧ (Γ.ty t).lsts = true ∧ len = z1N.length ∧ (Γ.ty t).elem.size ≠ 0 ∧ len * (Γ.ty t).elem.size ≤ 2 ^ 24 ∧ len ≤ smax) (takeEls (Γ.ty t).elem z1N 0 none [] [] fun e xs ws =>
    .need (d ∉ ws.map (·.1)) (if d ∈ Γ.fr then .need (e.plain = true) (.ret (ws ++ [(d, ⟨.val (.lst false e) (.lst xs), cd.v.kill⟩)])) else .ret (ws ++ [(d, ⟨.val (.lst true e) (.lst xs), cd.v.kill⟩)])))
end
end Go.Own
