/- A layer over the walk: what lies in memory as plain data, each operation by what it does to data; part 23. -/
import Derived.Test.YtilejnnnkfjmmaaGreatDoorD1
set_option linter.unusedSectionVars false
set_option linter.unusedVariables false
set_option linter.unusedSimpArgs false
namespace Go.Own
variable [Glb]
noncomputable section
open Go
variable {P : Program} {cs : List Ent} {ρ : List D} {Γ : Env} {S : List SC}
theorem z4T (ρ:List D) (s:Nat) (c:SC):z3V ρ [(s,c)]=[(s,c.conc ρ)]:=rfl
theorem z8E (ρ:List D) (a:SV) (v:Ver):SC.conc ρ ⟨a,v⟩=⟨a.conc ρ,v⟩:=rfl
def tB (b:Bool):SV:=.val .bool (.b b)
section
variable (Γ : Env) (S : List SC)
def zSm (dst:Option Nat) (x:Operand):OR:=
 match x with
 | .tmp t=>askS S t fun c=>match c.av with
   | .tup u d=>match dst with
     | none=>none
     | some s=>askS S s fun c'=>z0r (z9N Γ s && !Nat.beq t s) [] (retS [(t,⟨.undef,c.v.kill⟩),(s,⟨.tup u d,c'.v.kill⟩)])
   | _=>sout Γ S dst (z5d t c)
 | _=>sopd S x (sout Γ S dst)
def zLi (dst:Option Nat) (ty:TypeId):OR:=
 match Γ.ty ty with
 | .lst true e=>sout Γ S dst (.val (.lst true e) .nil)
 | _=>none
def zN1 (dst:Option Nat) (ty:TypeId) (x:Operand):OR:=
 match dst with
 | none=>none
 | some s=>match x with
   | .tmp t=>askS S t fun c=>match c.av with
     | .val u d=>askS S s fun c'=>z0r (z9N Γ s) [] (if u.plain then retS [(s,⟨.val u d,c'.v.kill⟩)]else z0r (!Nat.beq t s) [] (retS [(t,⟨.undef,c.v.kill⟩),(s,⟨.val u d,c'.v.kill⟩)]))
     | .nil=>zLi Γ S (some s) ty
     | .ref r _ _ ty _=>if inN Γ.fr s||decide (r=s)then z0r (z9N Γ s) [] (z8S S [] ty (.tmp t) fun ty' d' ws=>zK0 S ws s fun c'=>retS (ws++[(s,⟨.val ty' d',c'.v.kill⟩)]))else sout Γ S (some s) (z5d t c)
     | .win r _ _ e _ _=>if inN Γ.fr s||decide (r=s)then z0r (z9N Γ s) [] (z8S S [] (.lst true e) (.tmp t) fun ty' d' ws=>zK0 S ws s fun c'=>retS (ws++[(s,⟨.val ty' d',c'.v.kill⟩)]))else sout Γ S (some s) (z5d t c)
     | _=>sout Γ S (some s) (z5d t c)
   | _=>sopd S x fun a=>match a with
     | .nil=>zLi Γ S (some s) ty
     | a=>sout Γ S (some s) a
def zQW (dst:Option Nat) (t:TypeId) (x:Operand):OR:=sopd S x fun a=>match a with
 | .ptr r v p=>z4k S r fun cr tr dr bx=>match okX tr dr p with
    | none=>none
    | some as=>z0r (z64 v cr.v (z2W p)&&((bx || !Nat.beq (z2W p) 0)&&(decide ((sAt tr p).view=(Γ.ty t).view)&&(Γ.ty t).ok))) as
      (if (sAt tr p).plain then sout Γ S dst (.val (sAt tr p) (getX dr p))else sout Γ S dst (.ref r cr.v p (sAt tr p) (getX dr p)))
 | .val (.ptr e) d=>z0r (decide (e.view=(Γ.ty t).view)&&(Γ.ty t).ok) [] (sout Γ S dst (.val e d))
 | _=>none
def zGz (t:TypeId) (x y:Operand):OR:=sopd S x fun a=>match a with
 | .ptr r v p=>z4k S r fun cr tr dr bx=>match okX tr dr p with
    | none=>none
    | some as=>z0r (z64 v cr.v (z2W p)&&(bx || !Nat.beq (z2W p) 0)) as
      (z8S S [] (Γ.ty t) y fun ty d ws=>
        z0r (decide (ty.view=(Γ.ty t).view)&&((Γ.ty t).ok&&(!Nat.beq ty.size 0 && !inN (ws.map (·.1)) r))) []
         (if ty.plain&&decide (sAt tr p=ty)then retS (ws++[(r,cr.setRoot tr (setX dr p d) cr.v)])
          else if Nat.beq (z2W p) 0 then z0r (decide ((sAt tr p).shape=ty.shape)) [] (retS (ws++[(r,cr.setRoot (zBL tr p ty) (setX dr p d) cr.v.head)]))
          else z0r (decide (sAt tr p=ty)) [] (retS (ws++[(r,cr.setRoot tr (setX dr p d) cr.v.cont)]))))
 | _=>none
def zIW (dst:Option Nat) (t:TypeId) (x:Operand):OR:=
 match x with
 | .tmp s=>askS S s fun c=>match c.av with
   | .bref ty d r v p=>if ty.plain then zQW Γ S dst t x else askS S r fun cr=>match cr.root with
     | some (tr,dr,_)=>match okX tr dr p with
       | none=>none
       | some as=>z0r (z29 v cr.v (z2W p)&&(decide (sAt tr p=ty)&&(decide (ty.view=(Γ.ty t).view)&&(Γ.ty t).ok))) as (sout Γ S dst (.ref r v p ty d))
     | none=>none
   | _=>zQW Γ S dst t x
 | _=>zQW Γ S dst t x
def zQX (dst:Option Nat) (t:TypeId) (x:Operand):OR:=
 match x with
 | .tmp s=>askS S s fun c=>match c.av with
   | .ptr r0 v0 q=>askS S r0 fun c0=>match c0.av with
     | .bref ty d r v p=>if !zGy ty q||(sAt ty q).plain then zIW Γ S dst t x else askS S r fun cr=>match cr.root with
       | some (tr,dr,_)=>match okX tr dr p with
         | none=>none
         | some as=>z0r (z64 v0 c0.v 0&&(z29 v cr.v (z2W p)&&(decide (sAt tr p=ty)&&(decide ((sAt ty q).view=(Γ.ty t).view)&&(Γ.ty t).ok)))) as (sout Γ S dst (.ref r v (p++q) (sAt ty q) (getX d q)))
       | none=>none
     | _=>zIW Γ S dst t x
   | _=>zIW Γ S dst t x
 | _=>zIW Γ S dst t x
def zDX (t:TypeId) (x y:Operand):OR:=
 match x,y with
 | .tmp s,.tmp u=>askS S s fun c=>match c.root with
   | some (tb,_,true)=>askS S u fun cu=>match cu.av with
     | .ref r v p ty d=>askS S r fun cr=>match cr.root with
       | some (tr,dr,_)=>if !zGy tr p||inN Γ.fr u then(match okX tr dr p with
         | none=>none
         | some as=>z0r (z29 v cr.v (z2W p)&&(decide (sAt tr p=ty)&&(ty.agg&&(decide (tb.shape=ty.shape)&&(decide (ty.view=(Γ.ty t).view)&&((Γ.ty t).ok&&(!Nat.beq ty.size 0&&(!Nat.beq r s&&Nat.blt s Γ.n)))))))) as (retS [(s,⟨.bref ty d r v p,c.v.head⟩)]))
         else zGz Γ S t x y
       | none=>zGz Γ S t x y
     | _=>zGz Γ S t x y
   | _=>zGz Γ S t x y
 | _,_=>zGz Γ S t x y
def zN2 (t:TypeId) (x y:Operand):OR:=
 match x,y with
 | .tmp s,.tmp u=>askS S u fun cu=>match cu.av with
   | .win r0 _ _ _ _ _=>askS S s fun c=>match z5d s c with
     | .ptr r _ _=>if Nat.beq r r0 then z8S S [] (Γ.ty t) y fun ty d ws=>zK0 S ws s fun c'=>match z5d s c' with
        | .ptr r' v' p'=>zK0 S ws r' fun cr=>match cr.root with
          | some (tr,dr,bx)=>match okX tr dr p' with
            | none=>none
            | some as=>z0r (z64 v' cr.v (z2W p')&&(bx&&(Nat.beq (z2W p') 0&&(decide (ty.view=(Γ.ty t).view)&&((Γ.ty t).ok&&(!Nat.beq ty.size 0&&decide ((sAt tr p').shape=ty.shape))))))) as
              (retS (ws++[(r',cr.setRoot (zBL tr p' ty) (setX dr p' d) cr.v.head)]))
          | none=>none
        | _=>none
       else zDX Γ S t x y
     | _=>zDX Γ S t x y
   | _=>zDX Γ S t x y
 | _,_=>zDX Γ S t x y
def zQU (dst:Option Nat) (t:TypeId) (x:Operand) (j:Nat):OR:=sopd S x fun a=>match a with
 | .val ty d=>z0r (ty.plain&&(decide (ty.view=(Γ.ty t).view)&&ty.has j)) [] (sout Γ S dst (.val (ty.fld j) (z6I d j)))
 | .ref r v p ty d=>z4k S r fun cr tr dr _=>match okX tr dr p with
    | none=>none
    | some as=>z0r (z29 v cr.v (z2W p)&&(decide (sAt tr p=ty)&&(decide (ty.view=(Γ.ty t).view)&&ty.has j))) as
      (if (ty.fld j).plain then sout Γ S dst (.val (ty.fld j) (z6I d j))else sout Γ S dst (.ref r v (p++[.f j]) (ty.fld j) (z6I d j)))
 | _=>none
def zDU (dst:Option Nat) (t:TypeId) (x:Operand) (j:Nat):OR:=sopd S x fun a=>match a with
 | .ptr r v p=>z4k S r fun cr tr dr bx=>match okX tr dr p with
    | none=>none
    | some as=>z0r (z64 v cr.v (z2W p)&&((bx || !Nat.beq (z2W p) 0)&&(decide ((sAt tr p).shape=(Γ.ty t).shape)&&((Γ.ty t).has j && !Nat.beq ((Γ.ty t).fld j).size 0)))) as (sout Γ S dst (.ptr r (nvp cr.v (z2W p)) (p++[.f j])))
 | .val (.ptr e) d=>z0r (decide (e.view=(Γ.ty t).view)&&(e.has j && !Nat.beq (e.fld j).size 0)) [] (sout Γ S dst (.val (.ptr (e.fld j)) (z6I d j)))
 | _=>none
def zDV (dst:Option Nat) (t:TypeId) (x y:Operand):OR:=sopd S x fun a=>sopd S y fun b=>match b with
 | .val (.int _) n=>match a with
   | .ref r v p (.lst true e) _=>z4k S r fun cr tr dr _=>match okX tr dr p with
     | none=>none
     | some as=>z0r (z29 v cr.v (z2W p)&&(decide (sAt tr p=.lst true e)&&(decide (e.view=(Γ.ty t).elem.view)&&(Γ.ty t).lsts))) (as++[zHf n (getX dr p)]) (sout Γ S dst (.ptr r cr.v (p++[.i n])))
   | .val (.lst false e) d=>z0r (decide (e.view=(Γ.ty t).elem.view)&&(Γ.ty t).lsts) [zHf n d] (sout Γ S dst (.val (.ptr e) (zJU d n)))
   | _=>none
 | _=>none
end
theorem Sim.move {dst:Option Nat} {x:Operand}:Sim P cs ρ S (zSm Γ S dst x) (zAc Γ dst x):=by
 unfold zSm zAc
 split
 ·rename_i t;refine Sim.ask ?_;have hc:=z5j ρ t (sget S t);generalize sget S t=c at hc;obtain⟨a,v⟩:=c
  cases a with
  | tup u d=>
    cases dst with
    | none=>exact Sim.nope
    | some s=>
      refine Sim.ask (Sim.needB (fun hb=>?_) fun _=>Sim.ret);simp only[Bool.and_eq_true,Bool.not_eq_true']at hb;exact⟨(z1P hb.1).1,(z1P hb.1).2,z3a hb.2⟩
  | _=>exact Sim.out' hc
 ·rename_i hx
  cases x with
  | tmp t=>exact(hx t rfl).elim
  | _=>exact Sim.opd fun a=>Sim.out
theorem Sim.nilTo {dst:Option Nat} {ty:TypeId}:Sim P cs ρ S (zLi Γ S dst ty) (nilTo Γ dst ty):=by
 unfold zLi Own.nilTo
 split
 ·rename_i e h; rw[h]; exact Sim.out
 ·exact Sim.nope
theorem z87 (ρ:List D) (a:SWr):(z3V ρ a).map (·.1)=a.map (·.1):=by simp[z3V]
theorem z0y (ρ:List D) (a b:SWr):z3V ρ (a++b)=z3V ρ a++z3V ρ b:=by simp[z3V]
theorem zNq {ws:SWr} {d:Nat} (h:inN (ws.map (·.1)) d=false):d∉(z3V ρ ws).map (·.1):=by
 rw[z87]
 intro hm
 have:=z50.2 hm
 rw[h]at this; cases this
theorem Sim.assign {dst:Option Nat} {ty:TypeId} {x:Operand}:Sim P cs ρ S (zN1 Γ S dst ty x) (zC6 Γ dst ty x):=by
 unfold zN1 zC6
 cases dst with
 | none=>exact Sim.nope
 | some s=>
   simp only;split
   ·rename_i t;refine Sim.ask ?_;have hc:=z5j ρ t (sget S t);generalize sget S t=c at hc;obtain⟨a,v⟩:=c
    cases a with
    | val u d=>
      refine Sim.ask (Sim.needB (fun hb=>z1P hb) fun _=>?_);refine Sim.ite Iff.rfl (fun _=>Sim.ret) fun _=>Sim.needB (fun hb=>?_) fun _=>Sim.ret;simp only[Bool.not_eq_true']at hb;exact z3a hb
    | nil=>exact Sim.nilTo
    | ref r v p u x=>
      refine Sim.ite (by rw[Bool.or_eq_true,z50,decide_eq_true_eq]) (fun _=>?_) fun _=>Sim.out' hc;refine Sim.needB (fun hb=>z1P hb) fun _=>?_;refine Sim.takeW (ws:=[]) fun ty' d' ws=>Sim.askW fun c'=>?_;refine Sim.ret' ?_;rw[z0y,z4T]; rfl
    | win r v p e lo n=>
      refine Sim.ite (by rw[Bool.or_eq_true,z50,decide_eq_true_eq]) (fun _=>?_) fun _=>Sim.out' hc;refine Sim.needB (fun hb=>z1P hb) fun _=>?_;refine Sim.takeW (ws:=[]) fun ty' d' ws=>Sim.askW fun c'=>?_;refine Sim.ret' ?_;rw[z0y,z4T]; rfl
    | _=>exact Sim.out' hc
   ·rename_i hx;have key:Sim P cs ρ S (sopd S x fun a=>match a with
     | .nil=>zLi Γ S (some s) ty
     | a=>sout Γ S (some s) a) (Own.opd x fun a=>match a with
     | .nil=>Own.nilTo Γ (some s) ty
     | a=>Own.out Γ (some s) a):=by
     refine Sim.opd fun a=>?_
     cases a with
     | nil=>exact Sim.nilTo
     | _=>exact Sim.out
    cases x with
    | tmp t=>exact(hx t rfl).elim
    | _=>exact key
theorem zFN {bx:Bool} {p:z0Z} (h:(bx || !Nat.beq (z2W p) 0)=true):bx=true\/depth (z0Z.conc ρ p)≠0:=by
 rw[z0n]
 simp only[Bool.or_eq_true,Bool.not_eq_true']at h
 exact h.imp id z3a
theorem Sim.load {dst:Option Nat} {t:TypeId} {x:Operand}:Sim P cs ρ S (zQW Γ S dst t x) (zIM Γ dst t x):=by
 unfold zQW zIM
 refine Sim.opd fun a=>?_
 cases a with
 | ptr r v p=>
   refine Sim.rootOf fun c tr dr bx _ _=>?_
   cases hok:okX tr dr p with
   | none=>exact Sim.nope
   | some as=>
     refine Sim.need (fun hb ha=>?_) fun hb ha=>?_
     ·simp only[Bool.and_eq_true,decide_eq_true_eq]at hb;exact⟨by rw[z0n]; exact z3C hb.1,z5N ρ p hok ha,zFN hb.2.1,by rw[z1d]; exact hb.2.2.1,hb.2.2.2⟩
     ·refine Sim.ite (by rw[z1d]) (fun _=>Sim.out' ?_) (fun _=>Sim.out' ?_)
      ·simp only[SV.conc,z28,z1d]
      ·simp only[SV.conc,z28,z1d]; rfl
 | val ty d=>
   cases ty with
   | ptr e=>
     refine Sim.needB (fun hb=>?_) fun _=>Sim.out' rfl;simp only[Bool.and_eq_true,decide_eq_true_eq]at hb;exact hb
   | _=>exact Sim.nope
 | _=>exact Sim.nope
theorem Sim.store {t:TypeId} {x y:Operand}:Sim P cs ρ S (zGz Γ S t x y) (z9a Γ t x y):=by
 unfold zGz z9a
 refine Sim.opd fun a=>?_
 cases a with
 | ptr r v p=>
   refine Sim.rootOf fun c tr dr bx _ _=>?_
   cases hok:okX tr dr p with
   | none=>exact Sim.nope
   | some as=>
     refine Sim.need (fun hb ha=>?_) fun hb ha=>?_
     ·simp only[Bool.and_eq_true,decide_eq_true_eq]at hb;exact⟨by rw[z0n]; exact z3C hb.1,z5N ρ p hok ha,zFN hb.2⟩
     ·refine Sim.takeW (ws:=[]) fun ty d ws=>?_;refine Sim.needB (fun hb=>?_) fun hb=>?_
      ·simp only[Bool.and_eq_true,decide_eq_true_eq,Bool.not_eq_true']at hb;refine⟨hb.1,hb.2.1,z3a hb.2.2.1,fun hm=>?_⟩;rw[z87]at hm;have:=z50.2 hm;rw[hb.2.2.2]at this; cases this
      ·refine Sim.ite (by simp[z1d]) (fun _=>Sim.ret' ?_) fun _=>Sim.ite (by rw[z0n]; simp) (fun _=>Sim.needB (fun hb=>?_) fun _=>Sim.ret' ?_) fun _=>Sim.needB (fun hb=>?_) fun _=>Sim.ret' ?_
       ·rw[z0y,z4T,SC.setRoot_conc,z7s]; rfl
       ·rw[z1d]; simpa using hb
       ·rw[z0y,z4T,SC.setRoot_conc,z7s,z6k]; rfl
       ·rw[z1d]; simpa using hb
       ·rw[z0y,z4T,SC.setRoot_conc,z7s]; rfl
 | _=>exact Sim.nope
theorem Sim.loadB {dst:Option Nat} {t:TypeId} {x:Operand}:Sim P cs ρ S (zIW Γ S dst t x) (z9Z Γ dst t x):=by
 unfold zIW z9Z
 split
 ·rename_i s;refine Sim.ask ?_;generalize sget S s=c;obtain⟨a,v⟩:=c
  cases a with
  | bref ty d r v p=>
    refine Sim.ite Iff.rfl (fun _=>Sim.load) fun _=>Sim.ask ?_;rw[SC.root_conc]
    cases hr:(sget S r).root with
    | none=>exact Sim.nope
    | some q=>
      obtain⟨tr,dr,bx⟩:=q;dsimp only[Option.map_some]
      cases hok:okX tr dr p with
      | none=>exact Sim.nope
      | some as=>
        refine Sim.need (fun hb ha=>?_) fun hb ha=>Sim.out' rfl;simp only[Bool.and_eq_true,decide_eq_true_eq]at hb;exact⟨by rw[z0n]; exact z0l hb.1,by rw[z1d]; exact hb.2.1,z5N ρ p hok ha,hb.2.2.1,hb.2.2.2⟩
  | _=>exact Sim.load
 ·rename_i hx
  cases x with
  | tmp t=>exact(hx t rfl).elim
  | _=>exact Sim.load
theorem Sim.loadD {dst:Option Nat} {t:TypeId} {x:Operand}:Sim P cs ρ S (zQX Γ S dst t x) (zGU Γ dst t x):=by
 unfold zQX zGU
 split
 ·rename_i s;refine Sim.ask ?_;generalize sget S s=c;obtain⟨a,v⟩:=c
  cases a with
  | ptr r0 v0 q=>
    refine Sim.ask ?_;generalize sget S r0=c0;obtain⟨a0,w0⟩:=c0
    cases a0 with
    | bref ty d r v p=>
      refine Sim.ite (by rw[Bool.or_eq_true,Bool.not_eq_true',z6d,z1d]) (fun _=>Sim.loadB) fun _=>Sim.ask ?_;rw[SC.root_conc]
      cases hr:(sget S r).root with
      | none=>exact Sim.nope
      | some q1=>
        obtain⟨tr,dr,bx⟩:=q1;dsimp only[Option.map_some]
        cases hok:okX tr dr p with
        | none=>exact Sim.nope
        | some as=>
          refine Sim.need (fun hb ha=>?_) fun hb ha=>Sim.out' ?_
          ·simp only[Bool.and_eq_true,decide_eq_true_eq]at hb;exact⟨z3C hb.1,by rw[z0n]; exact z0l hb.2.1,by rw[z1d]; exact hb.2.2.1,z5N ρ p hok ha,by rw[z1d]; exact hb.2.2.2.1,hb.2.2.2.2⟩
          ·have e1:sAt ty q=ty.at (z0Z.conc ρ q):=(z1d ρ q ty).symm;have e2:z0Z.conc ρ (p++q)=z0Z.conc ρ p++z0Z.conc ρ q:=by simp[z0Z.conc]
           simp only[SV.conc,e1,e2,z28]
    | _=>exact Sim.loadB
  | _=>exact Sim.loadB
 ·rename_i hx
  cases x with
  | tmp t=>exact(hx t rfl).elim
  | _=>exact Sim.loadB
theorem Sim.storeB {t:TypeId} {x y:Operand}:Sim P cs ρ S (zDX Γ S t x y) (z7n Γ t x y):=by
 unfold zDX z7n
 split
 ·rename_i s u;refine Sim.ask ?_;rw[SC.root_conc]
  cases hr0:(sget S s).root with
  | none=>exact Sim.store
  | some q0=>
    obtain⟨tb,db,bx0⟩:=q0;dsimp only[Option.map_some]
    cases bx0 with
    | false=>exact Sim.store
    | true=>
      refine Sim.ask ?_;generalize sget S u=c;obtain⟨a,vu⟩:=c
      cases a with
      | ref r v p ty d=>
        refine Sim.ask ?_;rw[SC.root_conc]
        cases hr:(sget S r).root with
        | none=>exact Sim.store
        | some q=>
          obtain⟨tr,dr,bx⟩:=q;dsimp only[Option.map_some];refine Sim.ite (by rw[Bool.or_eq_true,z50,Bool.not_eq_true',z6d]) (fun _=>?_) fun _=>Sim.store
          cases hok:okX tr dr p with
          | none=>exact Sim.nope
          | some as=>
            refine Sim.need (fun hb ha=>?_) fun hb ha=>Sim.ret' rfl;simp only[Bool.and_eq_true,decide_eq_true_eq,Bool.not_eq_true']at hb;exact⟨by rw[z0n]; exact z0l hb.1,by rw[z1d]; exact hb.2.1,z5N ρ p hok ha,hb.2.2.1,hb.2.2.2.1,hb.2.2.2.2.1,hb.2.2.2.2.2.1,z3a hb.2.2.2.2.2.2.1,z3a hb.2.2.2.2.2.2.2.1,Nat.lt_of_lt_of_le (by simpa using hb.2.2.2.2.2.2.2.2) (Nat.le_refl _)⟩
      | _=>exact Sim.store
 ·rename_i hx
  cases x with
  | tmp s=>
    cases y with
    | tmp u=>exact(hx s u rfl rfl).elim
    | _=>exact Sim.store
  | _=>exact Sim.store
theorem Sim.storeC {t:TypeId} {x y:Operand}:Sim P cs ρ S (zN2 Γ S t x y) (zC7 Γ t x y):=by
 unfold zN2 zC7
 split
 ·rename_i s u;refine Sim.ask ?_;generalize sget S u=cu;obtain⟨a,vu⟩:=cu
  cases a with
  | win r0 v0 p0 e lo n=>
    refine Sim.ask ?_;rw[<- z5j];generalize z5d s (sget S s)=a
    cases a with
    | ptr r v p=>
      refine Sim.ite (by simp) (fun _=>?_) fun _=>Sim.storeB;refine Sim.takeW (ws:=[]) fun ty d ws=>Sim.askW fun c'=>?_;rw[<- z5j];generalize z5d s c'=a'
      cases a' with
      | ptr r' v' p'=>
        refine Sim.askW fun cr=>?_;rw[SC.root_conc]
        cases hr:cr.root with
        | none=>exact Sim.nope
        | some q=>
          obtain⟨tr,dr,bx⟩:=q;dsimp only[Option.map_some]
          cases hok:okX tr dr p' with
          | none=>exact Sim.nope
          | some as=>
            refine Sim.need (fun hb ha=>?_) fun hb ha=>Sim.ret' ?_
            ·simp only[Bool.and_eq_true,decide_eq_true_eq,Bool.not_eq_true']at hb;exact⟨by rw[z0n]; exact z3C hb.1,z5N ρ p' hok ha,hb.2.1,by rw[z0n]; exact Nat.eq_of_beq_eq_true hb.2.2.1,hb.2.2.2.1,hb.2.2.2.2.1,z3a hb.2.2.2.2.2.1,by rw[z1d]; exact hb.2.2.2.2.2.2⟩
            ·rw[z0y,z4T,SC.setRoot_conc,z7s,z6k]; rfl
      | _=>exact Sim.nope
    | _=>exact Sim.storeB
  | _=>exact Sim.storeB
 ·rename_i hx
  cases x with
  | tmp s=>
    cases y with
    | tmp u=>exact(hx s u rfl rfl).elim
    | _=>exact Sim.storeB
  | _=>exact Sim.storeB
theorem zFP (ρ:List D) (p:z0Z) (s:SStep):z0Z.conc ρ (p++[s])=z0Z.conc ρ p++[s.conc ρ]:=by simp[z0Z.conc]
theorem Sim.field {dst:Option Nat} {t:TypeId} {x:Operand} {j:Nat}:Sim P cs ρ S (zQU Γ S dst t x j) (zJc Γ dst t x j):=by
 unfold zQU zJc
 refine Sim.opd fun a=>?_
 cases a with
 | val ty d=>
   refine Sim.needB (fun hb=>?_) fun _=>Sim.out' (by simp only[SV.conc,z39]);simp only[Bool.and_eq_true,decide_eq_true_eq]at hb;exact hb
 | ref r v p ty d=>
   refine Sim.rootOf fun c tr dr bx _ _=>?_
   cases hok:okX tr dr p with
   | none=>exact Sim.nope
   | some as=>
     refine Sim.need (fun hb ha=>?_) fun hb ha=>?_
     ·simp only[Bool.and_eq_true,decide_eq_true_eq]at hb;exact⟨by rw[z0n]; exact z0l hb.1,by rw[z1d]; exact hb.2.1,z5N ρ p hok ha,hb.2.2.1,hb.2.2.2⟩
     ·refine Sim.ite Iff.rfl (fun _=>Sim.out' ?_) (fun _=>Sim.out' ?_)
      ·simp only[SV.conc,z39]
      ·simp only[SV.conc,z39,zFP]; rfl
 | _=>exact Sim.nope
theorem Sim.fieldAddr {dst:Option Nat} {t:TypeId} {x:Operand} {j:Nat}:Sim P cs ρ S (zDU Γ S dst t x j) (z4R Γ dst t x j):=by
 unfold zDU z4R
 refine Sim.opd fun a=>?_
 cases a with
 | ptr r v p=>
   refine Sim.rootOf fun c tr dr bx _ _=>?_
   cases hok:okX tr dr p with
   | none=>exact Sim.nope
   | some as=>
     refine Sim.need (fun hb ha=>?_) fun hb ha=>Sim.out' ?_
     ·simp only[Bool.and_eq_true,decide_eq_true_eq,Bool.not_eq_true']at hb;exact⟨by rw[z0n]; exact z3C hb.1,z5N ρ p hok ha,zFN hb.2.1,by rw[z1d]; exact hb.2.2.1,hb.2.2.2.1,z3a hb.2.2.2.2⟩
     ·simp only[SV.conc,zFP,z0n]; rfl
 | val ty d=>
   cases ty with
   | ptr e=>
     refine Sim.needB (fun hb=>?_) fun _=>Sim.out' (by simp only[SV.conc,z39]);simp only[Bool.and_eq_true,decide_eq_true_eq,Bool.not_eq_true']at hb;exact⟨hb.1,hb.2.1,z3a hb.2.2⟩
   | _=>exact Sim.nope
 | _=>exact Sim.nope
theorem zNj {n x:X} (h:((zHf n x).den ρ).b=true):0<=(n.den ρ).i/\(n.den ρ).i<(x.den ρ).l.length:=by
 rw[zLD]at h
 simpa using h
theorem Sim.indexAddr {dst:Option Nat} {t:TypeId} {x y:Operand}:Sim P cs ρ S (zDV Γ S dst t x y) (z8j Γ dst t x y):=by
 unfold zDV z8j
 refine Sim.opd fun a=>Sim.opd fun b=>?_
 cases b with
 | val tn n=>
   cases tn with
   | int k=>
     cases a with
     | ref r v p ty d=>
       cases ty with
       | lst o e=>
         cases o with
         | true=>
           refine Sim.rootOf fun c tr dr bx _ _=>?_
           cases hok:okX tr dr p with
           | none=>exact Sim.nope
           | some as=>
             refine Sim.need (fun hb ha=>?_) fun hb ha=>Sim.out' ?_
             ·simp only[Bool.and_eq_true,decide_eq_true_eq]at hb;have h1:=zNj (ha _ (by simp:zHf n (getX dr p)∈as++[zHf n (getX dr p)]));rw[z28]at h1;exact⟨by rw[z0n]; exact z0l hb.1,by rw[z1d]; exact hb.2.1,z5N ρ p hok (fun a hm=>ha a (by simp[hm])),hb.2.2.1,hb.2.2.2,h1.1,h1.2⟩
             ·simp only[SV.conc,zFP]; rfl
         | false=>exact Sim.nope
       | _=>exact Sim.nope
     | val ty d=>
       cases ty with
       | lst o e=>
         cases o with
         | true=>exact Sim.nope
         | false=>
           refine Sim.need (fun hb ha=>?_) fun hb ha=>Sim.out' rfl;simp only[Bool.and_eq_true,decide_eq_true_eq]at hb;have h1:=zNj (ha (zHf n d) (by simp));exact⟨hb.1,hb.2,h1.1,h1.2⟩
       | _=>exact Sim.nope
     | win r v p e lo m=>exact Sim.nope
     | _=>exact Sim.nope
   | _=>exact Sim.nope
 | _=>exact Sim.nope
end
end Go.Own
namespace Go.Own
variable [Glb]
noncomputable section
open Go
variable {P : Program} {cs : List Ent} {ρ : List D} {Γ : Env} {S : List SC}
section
variable (Γ : Env) (S : List SC)
def sLen (dst:Option Nat) (t:TypeId) (x:Operand):OR:=sopd S x fun a=>match a with
 | .val .str d=>z0r (decide (Γ.ty t=.str)) [] (sout Γ S dst (.val (.int .i64) (.un .slen d)))
 | .val (.lst _ _) d=>z0r ((Γ.ty t).lsts) [] (sout Γ S dst (.val (.int .i64) (z91 d)))
 | .ref r v p (.lst true e) _=>z4k S r fun cr tr dr _=>match okX tr dr p with
    | none=>none
    | some as=>z0r (z29 v cr.v (z2W p)&&(decide (sAt tr p=.lst true e)&&(Γ.ty t).lsts)) as (sout Γ S dst (.val (.int .i64) (z91 (getX dr p))))
 | .nil=>z0r ((Γ.ty t).lsts) [] (sout Γ S dst (.val (.int .i64) (.i 0)))
 | _=>none
def zQV (dst:Option Nat) (t:TypeId) (x y:Operand):OR:=sopd S x fun a=>sopd S y fun b=>match a,b with
 | .val .str d,.val (.int _) n=>z0r (decide (Γ.ty t=.str)) [.bi .sinb n d] (sout Γ S dst (.val (.int .u8) (.bi .byteAt d n)))
 | _,_=>none
def sNil (dst:Option Nat) (x:Operand):OR:=sopd S x fun a=>match a with
 | .ptr r v p=>z4k S r fun cr tr dr bx=>match okX tr dr p with
    | none=>none
    | some as=>z0r (z64 v cr.v (z2W p)&&(bx || !Nat.beq (z2W p) 0)) as (sout Γ S dst (.ptr r cr.v p))
 | .val (.ptr e) d=>sout Γ S dst (.val (.ptr e) d)
 | _=>none
def zG4 (f:List (X×Bool)) (x:X):Option Bool:=
 match x with
 | .b b=>some b
 | x=>match f with
   | []=>none
   | (y,b)::f=>if y.beq x then some b else zG4 f x
def zSn (f:List (X×Bool)) (dst:Option Nat) (c x y:Operand):OR:=sopd S c fun c=>match c with
 | .val .bool d=>match zG4 f d with
   | some b=>sopd S x fun a=>sopd S y fun a'=>if b then sout Γ S dst a else sout Γ S dst a'
   | none=>sopd S x fun a=>sopd S y fun b=>match a,b with
     | .val t d1,.val u d2=>z0r (decide (t=u)) [] (sout Γ S dst (.val t (.tri .ite d d1 d2)))
     | _,_=>none
 | _=>none
def sUn (dst:Option Nat) (op:UnOp) (x:Operand):OR:=sopd S x fun a=>match op,a with
 | .not,.val .bool d=>sout Γ S dst (.val .bool (.un .bnot d))
 | .neg,.val (.int k) d=>sout Γ S dst (.val (.int k) (.un (.neg k) d))
 | _,_=>none
def zK1 (op:BinOp) (k:IntKind) (x y:X):Option (List X×T×X):=
 match op with
 | .add | .sub | .mul | .and | .or | .xor | .andNot=>some ([],.int k,.bi (.ib op k) x y)
 | .quo | .rem=>some ([.bi (.ib .neq k) y (.i 0)],.int k,.bi (.ib op k) x y)
 | .eql | .neq | .lss | .leq | .gtr | .geq=>some ([],.bool,.bi (.ib op k) x y)
 | _=>none
def zK2 (op:BinOp) (x y:X):Option (List X×T×X):=
 match op with
 | .add=>some ([.bi .catOk x y],.str,.bi (.sb op) x y)
 | .eql | .neq | .lss | .leq | .gtr | .geq=>some ([],.bool,.bi (.sb op) x y)
 | _=>none
def sBin (dst:Option Nat) (op:BinOp) (t:TypeId) (x y:Operand):OR:=sopd S x fun a=>sopd S y fun b=>match a,b with
 | .val (.int k) m,.val (.int k') n=>
   if decide (op=.shl)then z0r true [.un .ge0 n] (sout Γ S dst (.val (.int k) (.bi (.shl k) m n)))
   else if decide (op=.shr)then z0r true [.un .ge0 n] (sout Γ S dst (.val (.int k) (.bi (.shr k) m n)))
   else z0r (decide (k=k')) [] (match zK1 op k m n with
    | some (p,t,d)=>z0r true p (sout Γ S dst (.val t d))
    | none=>none)
 | .val .str m,.val .str n=>match zK2 op m n with
    | some (p,t,d)=>z0r true p (sout Γ S dst (.val t d))
    | none=>none
 | .val .bool m,.val .bool n=>match op with
    | .eql=>z0r (decide (Γ.ty t=.bool)) [] (sout Γ S dst (.val .bool (.bi .beq m n)))
    | .neq=>z0r (decide (Γ.ty t=.bool)) [] (sout Γ S dst (.val .bool (.bi .bne m n)))
    | _=>none
 | .val .err m,.val .err _=>match op,y with
    | .eql,.const .nilIface=>z0r (decide (Γ.ty t=.err)) [] (sout Γ S dst (.val .bool (.un .bnot m)))
    | .neq,.const .nilIface=>z0r (decide (Γ.ty t=.err)) [] (sout Γ S dst (.val .bool (.un .bnot (.un .bnot m))))
    | _,_=>none
 | _,_=>none
def sEqS (dst:Option Nat) (op:BinOp) (t:TypeId) (x y:Operand):OR:=sopd S x fun a=>sopd S y fun b=>match a,b with
 | .val τ m,.val u n=>match op with
   | .eql=>z0r (decide (τ=Γ.ty t)&&(decide (u=Γ.ty t)&&(Γ.ty t).eqsOk)) [] (sout Γ S dst (.val .bool (.bi .deq m n)))
   | .neq=>z0r (decide (τ=Γ.ty t)&&(decide (u=Γ.ty t)&&(Γ.ty t).eqsOk)) [] (sout Γ S dst (.val .bool (.un .bnot (.bi .deq m n))))
   | _=>none
 | _,_=>none
def zJy (dst:Option Nat) (x:Operand) (j:Nat):OR:=
 match x,dst with
 | .tmp t,some s=>askS S t fun c=>match c.av with
   | .tup ty d=>z0r (ty.has j) [] (if (ty.fld j).plain then sout Γ S (some s) (.val (ty.fld j) (z6I d j))
      else askS S s fun c'=>z0r (z9N Γ s && !Nat.beq t s) [] (retS [(t,⟨.tup (zBL ty [.f j] (ty.fld j).moved) d,c.v.kill⟩),(s,⟨.val (ty.fld j) (z6I d j),c'.v.kill⟩)]))
   | _=>none
 | _,_=>none
def zSA (dst:Option Nat) (t:TypeId):OR:=z0r ((Γ.ty t).ok) [] (sout Γ S dst (.box (Γ.ty t) (.z (Γ.ty t))))
def sBox (dst:Option Nat) (t:TypeId) (x:Operand):OR:=
 match dst with
 | none=>none
 | some d=>askS S d fun cd=>z0r (z9N Γ d&&(Γ.ty t).ok) [] (match x with
   | .tmp s=>askS S s fun c=>match c.av with
     | .val ty dd=>z0r (decide (ty.view=(Γ.ty t).view) && !Nat.beq s d) []
        (if ty.plain then retS [(d,⟨.box ty dd,cd.v.kill⟩)]else retS [(s,⟨.undef,c.v.kill⟩),(d,⟨.box ty dd,cd.v.kill⟩),(s,⟨.ref d cd.v.kill [] ty dd,c.v.kill.kill⟩)])
     | _=>z8S S [] (Γ.ty t) x fun ty dd ws=>z0r (decide (ty.view=(Γ.ty t).view) && !inN (ws.map (·.1)) d) [] (retS (ws++[(d,⟨.box ty dd,cd.v.kill⟩)]))
   | _=>z8S S [] (Γ.ty t) x fun ty dd ws=>z0r (decide (ty.view=(Γ.ty t).view) && !inN (ws.map (·.1)) d) [] (retS (ws++[(d,⟨.box ty dd,cd.v.kill⟩)])))
def zO4 (T0:T):List (Nat×Operand)->T->X->SWr->(T->X->SWr->OR)->OR
 | [],t,d,ws,k=>k t d ws
 | (j,x)::ps,t,d,ws,k=>z8S S ws (T0.fld j) x fun ty dd ws'=>
     z0r (T0.has j&&(decide (ty.view=(T0.fld j).view)&&(T0.fld j).sound)) [] (zO4 T0 ps (t.setFld j ty) (z9z d j dd) (ws++ws') k)
def zQP (dst:Option Nat) (t:TypeId) (z1v:List (Nat×Operand)):OR:=
 match dst with
 | none=>none
 | some d=>askS S d fun cd=>z0r (z9N Γ d&&(Γ.ty t).agg) [] (zO4 S (Γ.ty t) z1v (Γ.ty t) (.z (Γ.ty t)) [] fun ty dd ws=>
    z0r (!inN (ws.map (·.1)) d) [] (retS (ws++[(d,⟨.val ty dd,cd.v.kill⟩)])))
def zPx:List X->X
 | []=>.nil
 | x::l=>.bi .cons x (zPx l)
def zFA (e0:T):List (Nat×Operand)->Nat->Option T->List X->SWr->(T->List X->SWr->OR)->OR
 | [],_,e,xs,ws,k=>k (e.getD e0) xs ws
 | (j,x)::ps,i,e,xs,ws,k=>z8S S ws e0 x fun ty dd ws'=>
     z0r (Nat.beq j i&&((match e with | none=>true | some u=>decide (ty=u))&&decide (ty.view=e0.view))) [] (zFA e0 ps (i+1) (some ty) (xs++[dd]) (ws++ws') k)
def zBK (dst:Option Nat) (t:TypeId) (len:Nat) (z1v:List (Nat×Operand)):OR:=
 match dst with
 | none=>none
 | some d=>askS S d fun cd=>z0r (z9N Γ d&&((Γ.ty t).lsts&&(Nat.beq len z1v.length&&(!Nat.beq (Γ.ty t).elem.size 0&&Nat.ble (len*(Γ.ty t).elem.size) 16777216)))) [] (zFA S (Γ.ty t).elem z1v 0 none [] [] fun e xs ws=>
    z0r (!inN (ws.map (·.1)) d) [] (if inN Γ.fr d then z0r e.plain [] (retS (ws++[(d,⟨.val (.lst false e) (zPx xs),cd.v.kill⟩)]))else retS (ws++[(d,⟨.val (.lst true e) (zPx xs),cd.v.kill⟩)])))
def zDW (dst:Option Nat) (t:TypeId) (x y:Operand):OR:=sopd S x fun a=>sopd S y fun b=>match a,b with
 | .val (.int _) m,.val (.int _) n=>
   z0r (m.beq n&&(Γ.ty t).lsts) [.un (.makeOk (Γ.eb t)) n] (sout Γ S dst (.val (.lst true (Γ.ty t).elem) (.bi .rep n (.z (Γ.ty t).elem))))
 | _,_=>none
def zQT (dst:Option Nat) (src tgt:TypeId) (x:Operand):OR:=sopd S x fun a=>match a with
 | .val .str d=>z0r (decide (Γ.ty src=.str)&&decide (Γ.ty tgt=.lst true (.int .u8))) [] (sout Γ S dst (.val (.lst true (.int .u8)) (.un .sbytes d)))
 | _=>none
def zSl (dst:Option Nat) (src tgt:TypeId) (x:Operand):OR:=sopd S x fun a=>match a with
 | .val (.int _) d=>match Γ.ty tgt with
   | .int k=>z0r ((Γ.ty src).ok) [] (sout Γ S dst (.val (.int k) (.un (.conv k) d)))
   | _=>none
 | .val (.lst false (.int .u8)) d=>z0r (decide (Γ.ty src=.lst true (.int .u8))&&decide (Γ.ty tgt=.str)) [] (sout Γ S dst (.val .str (.un .bstr d)))
 | .ref r v p (.lst true (.int .u8)) _=>z4k S r fun cr tr dr _=>match okX tr dr p with
    | none=>none
    | some as=>z0r (z29 v cr.v (z2W p)&&(decide (sAt tr p=.lst true (.int .u8))&&(decide (Γ.ty src=.lst true (.int .u8))&&decide (Γ.ty tgt=.str)))) as (sout Γ S dst (.val .str (.un .bstr (getX dr p))))
 | _=>none
end
theorem Sim.len {dst:Option Nat} {t:TypeId} {x:Operand}:Sim P cs ρ S (sLen Γ S dst t x) (zRZ Γ dst t x):=by
 unfold sLen zRZ
 refine Sim.opd fun a=>?_
 cases a with
 | val ty d=>
   cases ty with
   | str=>exact Sim.needB (fun hb=>by simpa using hb) fun _=>Sim.out' rfl
   | lst o e=>exact Sim.needB (fun hb=>hb) fun _=>Sim.out' (by simp only[SV.conc,z9L])
   | _=>exact Sim.nope
 | ref r v p ty d=>
   cases ty with
   | lst o e=>
     cases o with
     | true=>
       refine Sim.rootOf fun c tr dr bx _ _=>?_
       cases hok:okX tr dr p with
       | none=>exact Sim.nope
       | some as=>
         refine Sim.need (fun hb ha=>?_) fun hb ha=>Sim.out' (by simp only[SV.conc,z9L,z28]);simp only[Bool.and_eq_true,decide_eq_true_eq]at hb;exact⟨by rw[z0n]; exact z0l hb.1,by rw[z1d]; exact hb.2.1,z5N ρ p hok ha,hb.2.2⟩
     | false=>exact Sim.nope
   | _=>exact Sim.nope
 | nil=>exact Sim.needB (fun hb=>hb) fun _=>Sim.out' rfl
 | win r v p e lo n=>exact Sim.nope
 | _=>exact Sim.nope
theorem Sim.index {dst:Option Nat} {t:TypeId} {x y:Operand}:Sim P cs ρ S (zQV Γ S dst t x y) (zJd Γ dst t x y):=by
 unfold zQV zJd
 refine Sim.opd fun a=>Sim.opd fun b=>?_
 cases a with
 | val ty d=>
   cases ty with
   | str=>
     cases b with
     | val tn n=>
       cases tn with
       | int k=>
         refine Sim.need (fun hb ha=>?_) fun hb ha=>Sim.out' rfl;have h1:=ha (.bi .sinb n d) (by simp);simp only[X.den,Bi.sem,D.b_bool,Bool.and_eq_true,decide_eq_true_eq]at h1;exact⟨by simpa using hb,h1.1,h1.2⟩
       | _=>exact Sim.nope
     | _=>exact Sim.nope
   | _=>cases b <;> exact Sim.nope
 | _=>cases b <;> exact Sim.nope
theorem Sim.nilc {dst:Option Nat} {x:Operand}:Sim P cs ρ S (sNil Γ S dst x) (zRa Γ dst x):=by
 unfold sNil zRa
 refine Sim.opd fun a=>?_
 cases a with
 | ptr r v p=>
   refine Sim.rootOf fun c tr dr bx _ _=>?_
   cases hok:okX tr dr p with
   | none=>exact Sim.nope
   | some as=>
     refine Sim.need (fun hb ha=>?_) fun hb ha=>Sim.out' rfl;simp only[Bool.and_eq_true]at hb;exact⟨by rw[z0n]; exact z3C hb.1,z5N ρ p hok ha,zFN hb.2⟩
 | val ty d=>
   cases ty with
   | ptr e=>exact Sim.out' rfl
   | _=>exact Sim.nope
 | _=>exact Sim.nope
def zDy (ρ:List D) (f:List (X×Bool)):Prop:=∀x b,(x,b)∈f->(x.den ρ).b=b
theorem z9x {f:List (X×Bool)} (hf:zDy ρ f) {x:X} {b:Bool} (h:zG4 f x=some b):(x.den ρ).b=b:=by
 induction f with
 | nil=>
   unfold zG4 at h;split at h
   ·cases h; rfl
   ·cases h
 | cons a f ih=>
   obtain⟨y,c⟩:=a;unfold zG4 at h;split at h
   ·cases h; rfl
   ·simp only at h;split at h
    ·rename_i hb
     cases h
     rw[<- X.eq_of_beq hb]; exact hf y b (by simp)
    ·exact ih (fun x b hm=>hf x b (by simp[hm])) h
theorem Sim.pick {f:List (X×Bool)} (hf:zDy ρ f) {dst:Option Nat} {c x y:Operand}:Sim P cs ρ S (zSn Γ S f dst c x y) (zNt Γ dst c x y):=by
 unfold zSn zNt
 refine Sim.opd fun c=>?_
 cases c with
 | val ty d=>
   cases ty with
   | bool=>
     dsimp only[SV.conc]
     cases hk:zG4 f d with
     | some b=>
       have hd:=z9x hf hk;refine Sim.opd fun a=>Sim.opd fun a'=>?_;have gen:∀(q q':AV),a.conc ρ=q->a'.conc ρ=q'->Sim P cs ρ S (if b=true then sout Γ S dst a else sout Γ S dst a') (if (d.den ρ).b then Own.out Γ dst q else Own.out Γ dst q'):=by
        intro q q' h1 h2;rw[hd];exact Sim.ite Iff.rfl (fun _=>Sim.out' h1) (fun _=>Sim.out' h2)
       cases a with
       | val t d1=>
         cases a' with
         | val u d2=>
           simp only[SV.conc];by_cases htu:t=u
           ·subst htu;rw[if_pos rfl,hd]
            cases b
            ·exact Sim.out' rfl
            ·exact Sim.out' rfl
           ·rw[if_neg htu]; exact gen _ _ rfl rfl
         | _=>exact gen _ _ rfl rfl
       | _=>cases a' <;> exact gen _ _ rfl rfl
     | none=>
       refine Sim.opd fun a=>Sim.opd fun b=>?_
       cases a with
       | val t d1=>
         cases b with
         | val u d2=>
           refine Sim.guard fun hb _=>?_;have htu:t=u:=by simpa using hb
           subst htu;dsimp only[SV.conc];rw[if_pos rfl];exact Sim.out' rfl
         | _=>exact Sim.nope
       | _=>cases b <;> exact Sim.nope
   | _=>
     intro r h; cases h
 | _=>intro r h; cases h
theorem Sim.un {dst:Option Nat} {op:UnOp} {x:Operand}:Sim P cs ρ S (sUn Γ S dst op x) (opUn Γ dst op x):=by
 unfold sUn opUn
 refine Sim.opd fun a=>?_
 cases op with
 | not=>
   cases a with
   | val ty d=>cases ty <;> first | exact Sim.nope | exact Sim.out' rfl
   | _=>exact Sim.nope
 | neg=>
   cases a with
   | val ty d=>cases ty <;> first | exact Sim.nope | exact Sim.out' rfl
   | _=>exact Sim.nope
 | _=>exact Sim.nope
theorem zLj {op:BinOp} {k:IntKind} {x y:X} {as:List X} {t:T} {d:X} (h:zK1 op k x y=some (as,t,d)) :
 ∃p,zFL op k (x.den ρ).i (y.den ρ).i=some (p,t,d.den ρ)/\((∀a∈as,(a.den ρ).b=true)->p):=by
 cases op <;> simp only[zK1,Option.some.injEq,Prod.mk.injEq,reduceCtorEq]at h
 all_goals
  obtain⟨rfl,rfl,rfl⟩:=h;refine⟨_,rfl,fun ha=>?_⟩
 all_goals first
  | trivial
  | (have h1:=ha _ (List.mem_singleton.2 rfl)
     simpa [X.den,Bi.sem,D.ofBin]using h1)
theorem zLk {op:BinOp} {x y:X} {as:List X} {t:T} {d:X} (h:zK2 op x y=some (as,t,d)) :
 ∃p,zNL op (x.den ρ).s (y.den ρ).s=some (p,t,d.den ρ)/\((∀a∈as,(a.den ρ).b=true)->p):=by
 cases op <;> simp only[zK2,Option.some.injEq,Prod.mk.injEq,reduceCtorEq]at h
 all_goals
  obtain⟨rfl,rfl,rfl⟩:=h;refine⟨_,rfl,fun ha=>?_⟩
 all_goals first
  | trivial
  | (have h1:=ha _ (List.mem_singleton.2 rfl)
     simp only[X.den,Bi.sem,D.b_bool,decide_eq_true_eq]at h1;exact h1)
theorem Sim.bin {dst:Option Nat} {op:BinOp} {t:TypeId} {x y:Operand}:Sim P cs ρ S (sBin Γ S dst op t x y) (zOm Γ dst op t x y):=by
 unfold sBin zOm
 refine Sim.opd fun a=>Sim.opd fun b=>?_
 cases a with
 | val ta m=>
   cases b with
   | val tb n=>
     cases ta <;> cases tb <;> first | exact Sim.nope | skip
     ·rename_i k k';simp only[SV.conc];refine Sim.ite (by simp) (fun _=>Sim.need (fun _ ha=>?_) fun _ _=>Sim.out' rfl) fun _=>Sim.ite (by simp) (fun _=>Sim.need (fun _ ha=>?_) fun _ _=>Sim.out' rfl) fun _=>?_
      ·have h1:=ha _ (List.mem_singleton.2 rfl);simpa [X.den,Un.sem]using h1
      ·have h1:=ha _ (List.mem_singleton.2 rfl);simpa [X.den,Un.sem]using h1
      ·refine Sim.needB (fun hb=>by simpa using hb) fun hb=>?_
       cases hs:zK1 op k m n with
       | none=>exact Sim.nope
       | some q=>
         obtain⟨as,t',d⟩:=q;obtain⟨p,h1,h2⟩:=zLj (ρ:=ρ) hs;rw[h1];exact Sim.need (fun _ ha=>h2 ha) fun _ _=>Sim.out' rfl
     ·simp only[SV.conc]
      cases op <;> first
       | exact Sim.nope
       | exact Sim.needB (fun hb=>by simpa using hb) fun _=>Sim.out' rfl
     ·simp only[SV.conc]
      cases hs:zK2 op m n with
      | none=>exact Sim.nope
      | some q=>
        obtain⟨as,t',d⟩:=q;obtain⟨p,h1,h2⟩:=zLk (ρ:=ρ) hs;rw[h1];exact Sim.need (fun _ ha=>h2 ha) fun _ _=>Sim.out' rfl
     ·simp only[SV.conc];split
      ·exact Sim.needB (fun hb=>by simpa using hb) fun _=>Sim.out' rfl
      ·exact Sim.needB (fun hb=>by simpa using hb) fun _=>Sim.out' (by simp[SV.conc,X.den,Un.sem])
      ·exact Sim.nope
   | _=>cases ta <;> exact Sim.nope
 | _=>cases b <;> exact Sim.nope
theorem Sim.eqS {dst:Option Nat} {op:BinOp} {t:TypeId} {x y:Operand}:Sim P cs ρ S (sEqS Γ S dst op t x y) (zRY Γ dst op t x y):=by
 unfold sEqS zRY
 refine Sim.opd fun a=>Sim.opd fun b=>?_
 cases a with
 | val ta m=>
   cases b with
   | val tb n=>
     simp only[SV.conc]
     cases op <;> first
      | exact Sim.nope
      | exact Sim.needB (fun hb=>by simpa using hb) fun _=>Sim.out' rfl
   | _=>exact Sim.nope
 | _=>cases b <;> exact Sim.nope
theorem Sim.extract {dst:Option Nat} {x:Operand} {j:Nat}:Sim P cs ρ S (zJy Γ S dst x j) (z3A Γ dst x j):=by
 unfold zJy z3A
 split
 ·rename_i t s;refine Sim.ask ?_;generalize sget S t=c;obtain⟨a,v⟩:=c
  cases a with
  | tup ty d=>
    refine Sim.needB (fun hb=>hb) fun _=>Sim.ite Iff.rfl (fun _=>Sim.out' (by simp only[SV.conc,z39])) fun _=>Sim.ask (Sim.needB (fun hb=>?_) fun _=>Sim.ret' ?_)
    ·simp only[Bool.and_eq_true,Bool.not_eq_true']at hb;exact⟨(z1P hb.1).1,(z1P hb.1).2,z3a hb.2⟩
    ·simp[z3V,SC.conc,SV.conc,z39,zBL]
  | _=>exact Sim.nope
 ·rename_i h
  cases x with
  | tmp t=>
    cases dst with
    | some s=>exact(h t s rfl rfl).elim
    | none=>exact Sim.nope
  | _=>exact Sim.nope
theorem Sim.alloc {dst:Option Nat} {t:TypeId}:Sim P cs ρ S (zSA Γ S dst t) (zJa Γ dst t):=
 Sim.needB (fun hb=>hb) fun _=>Sim.out' rfl
theorem Sim.box {dst:Option Nat} {t:TypeId} {x:Operand}:Sim P cs ρ S (sBox Γ S dst t x) (zQ9 Γ dst t x):=by
 unfold sBox zQ9
 cases dst with
 | none=>exact Sim.nope
 | some d=>
   simp only;refine Sim.ask (Sim.needB (fun hb=>?_) fun _=>?_)
   ·simp only[Bool.and_eq_true]at hb;exact⟨(z1P hb.1).1,(z1P hb.1).2,hb.2⟩
   have key:∀x:Operand,Sim P cs ρ S (z8S S [] (Γ.ty t) x fun ty dd ws=>z0r (decide (ty.view=(Γ.ty t).view) && !inN (ws.map (·.1)) d) [] (retS (ws++[(d,⟨.box ty dd,(sget S d).v.kill⟩)])))
    (Own.take (Γ.ty t) x fun ty dd ws=>.need (ty.view=(Γ.ty t).view/\d∉ws.map (·.1)) (.ret (ws++[(d,⟨.box ty dd,(sget S d).v.kill⟩)]))):=by
    intro x;refine Sim.takeW (ws:=[]) fun ty dd ws=>Sim.needB (fun hb=>?_) fun _=>Sim.ret' ?_
    ·simp only[Bool.and_eq_true,decide_eq_true_eq,Bool.not_eq_true']at hb;exact⟨hb.1,zNq hb.2⟩
    ·rw[z0y]; rfl
   split
   ·rename_i s;refine Sim.ask ?_;have hkey:=key (.tmp s);generalize sget S s=c at *;obtain⟨a,v⟩:=c
    cases a with
    | val ty dd=>
      refine Sim.needB (fun hb=>?_) fun _=>Sim.ite Iff.rfl (fun _=>Sim.ret) (fun _=>Sim.ret' rfl);simp only[Bool.and_eq_true,decide_eq_true_eq,Bool.not_eq_true']at hb;exact⟨hb.1,z3a hb.2⟩
    | _=>exact hkey
   ·rename_i hx
    cases x with
    | tmp s=>exact(hx s rfl).elim
    | _=>exact key _
theorem Sim.takes {T0:T}:∀(ps:List (Nat×Operand)) {t:T} {d:X} {ws:SWr} {k:T->X->SWr->OR} {k':T->D->Wr->A},(∀t x w,Sim P cs ρ S (k t x w) (k' t (x.den ρ) (z3V ρ w))) ->
 Sim P cs ρ S (zO4 S T0 ps t d ws k) (Own.takes T0 ps t (d.den ρ) (z3V ρ ws) k')
 | [],t,d,ws,k,k',h=>h t d ws
 | (j,x)::ps,t,d,ws,k,k',h=>by
   unfold zO4 Own.takes;refine Sim.takeW fun ty dd ws'=>Sim.needB (fun hb=>?_) fun _=>?_
   ·simp only[Bool.and_eq_true,decide_eq_true_eq]at hb;exact hb
   ·have:=Sim.takes (T0:=T0) ps (t:=t.setFld j ty) (d:=z9z d j dd) (ws:=ws++ws') h;rw[zDr,z0y]at this;exact this
theorem Sim.build {dst:Option Nat} {t:TypeId} {z1v:List (Nat×Operand)}:Sim P cs ρ S (zQP Γ S dst t z1v) (zGQ Γ dst t z1v):=by
 unfold zQP zGQ
 cases dst with
 | none=>exact Sim.nope
 | some d=>
   refine Sim.ask (Sim.needB (fun hb=>?_) fun _=>?_)
   ·simp only[Bool.and_eq_true]at hb;exact⟨(z1P hb.1).1,(z1P hb.1).2,hb.2⟩
   ·refine Sim.takes z1v (d:=.z (Γ.ty t)) (ws:=[]) fun ty dd ws=>Sim.needB (fun hb=>?_) fun _=>Sim.ret' ?_
    ·simp only[Bool.not_eq_true']at hb;exact zNq hb
    ·rw[z0y]; rfl
theorem zG6 (ρ:List D):∀(l:List X),(zPx l).den ρ=.lst (l.map (X.den ρ))
 | []=>rfl
 | x::l=>by simp[zPx,X.den,Bi.sem,zG6 ρ l]
theorem Sim.takeEls {e0:T}:∀(ps:List (Nat×Operand)) {i:Nat} {e:Option T} {xs:List X} {ws:SWr} {k:T->List X->SWr->OR} {k':T->List D->Wr->A},(∀t x w,Sim P cs ρ S (k t x w) (k' t (x.map (X.den ρ)) (z3V ρ w))) ->
 Sim P cs ρ S (zFA S e0 ps i e xs ws k) (Own.takeEls e0 ps i e (xs.map (X.den ρ)) (z3V ρ ws) k')
 | [],i,e,xs,ws,k,k',h=>h _ xs ws
 | (j,x)::ps,i,e,xs,ws,k,k',h=>by
   unfold zFA Own.takeEls;refine Sim.takeW fun ty dd ws'=>Sim.needB (fun hb=>?_) fun _=>?_
   ·simp only[Bool.and_eq_true,decide_eq_true_eq]at hb;refine⟨Nat.eq_of_beq_eq_true hb.1,?_,hb.2.2⟩;rintro u rfl;simpa using hb.2.1
   ·have:=Sim.takeEls (e0:=e0) ps (i:=i+1) (e:=some ty) (xs:=xs++[dd]) (ws:=ws++ws') h;rw[z0y,List.map_append]at this;exact this
theorem Sim.buildSlice {dst:Option Nat} {t:TypeId} {len:Nat} {z1v:List (Nat×Operand)}:Sim P cs ρ S (zBK Γ S dst t len z1v) (z6h Γ dst t len z1v):=by
 unfold zBK z6h
 cases dst with
 | none=>exact Sim.nope
 | some d=>
   refine Sim.ask (Sim.needB (fun hb=>?_) fun _=>?_)
   ·simp only[Bool.and_eq_true,Bool.not_eq_true']at hb;have h2:=Nat.le_of_ble_eq_true hb.2.2.2.2;have h3:=z3a hb.2.2.2.1;refine⟨(z1P hb.1).1,(z1P hb.1).2,hb.2.1,Nat.eq_of_beq_eq_true hb.2.2.1,h3,h2,?_⟩;have h4:len*1<=len*(Γ.ty t).elem.size:=Nat.mul_le_mul_left _ (by omega);unfold smax; omega
   ·refine Sim.takeEls z1v (xs:=[]) (ws:=[]) fun ty xs ws=>Sim.needB (fun hb=>?_) fun _=>?_
    ·simp only[Bool.not_eq_true']at hb;exact zNq hb
    ·refine Sim.ite z50 (fun _=>Sim.needB (fun h=>h) fun _=>Sim.ret' ?_) fun _=>Sim.ret' ?_
     ·rw[z0y,z4T,z8E,SV.conc,zG6]; rfl
     ·rw[z0y,z4T,z8E,SV.conc,zG6]; rfl
theorem Sim.makeSlice {dst:Option Nat} {t:TypeId} {x y:Operand}:Sim P cs ρ S (zDW Γ S dst t x y) (z8k Γ dst t x y):=by
 unfold zDW z8k
 refine Sim.opd fun a=>Sim.opd fun b=>?_
 cases a with
 | val ta m=>
   cases b with
   | val tb n=>
     cases ta <;> cases tb <;> first | exact Sim.nope | skip
     refine Sim.need (fun hb ha=>?_) fun _ _=>Sim.out' rfl;simp only[Bool.and_eq_true]at hb;have h1:=ha _ (List.mem_singleton.2 rfl);simp only[X.den,Un.sem,D.b_bool,Bool.and_eq_true,decide_eq_true_eq]at h1;rw[X.eq_of_beq hb.1];exact⟨rfl,h1.1,hb.2,h1.2.1,h1.2.2⟩
   | _=>cases ta <;> exact Sim.nope
 | _=>cases b <;> exact Sim.nope
theorem Sim.convB {dst:Option Nat} {src tgt:TypeId} {x:Operand}:Sim P cs ρ S (zQT Γ S dst src tgt x) (zJb Γ dst src tgt x):=by
 unfold zQT zJb
 refine Sim.opd fun a=>?_
 cases a with
 | val ty d=>
   cases ty with
   | str=>exact Sim.needB (fun hb=>by simpa using hb) fun _=>Sim.out' rfl
   | _=>exact Sim.nope
 | _=>exact Sim.nope
theorem Sim.conv {dst:Option Nat} {src tgt:TypeId} {x:Operand}:Sim P cs ρ S (zSl Γ S dst src tgt x) (zNs Γ dst src tgt x):=by
 unfold zSl zNs
 refine Sim.opd fun a=>?_
 cases a with
 | val ty d=>
   cases ty with
   | int k=>
     dsimp only[SV.conc]
     cases Γ.ty tgt with
     | int k=>exact Sim.needB (fun hb=>hb) fun _=>Sim.out' rfl
     | _=>exact Sim.nope
   | lst o e=>
     cases o with
     | true=>exact Sim.nope
     | false=>
       cases e with
       | int k=>
         cases k <;> first
          | exact Sim.nope
          | exact Sim.needB (fun hb=>by simpa using hb) fun _=>Sim.out' rfl
       | _=>exact Sim.nope
   | _=>exact Sim.nope
 | ref r v p ty d=>
   cases ty with
   | lst o e=>
     cases o with
     | false=>exact Sim.nope
     | true=>
       cases e with
       | int k=>
         cases k <;> first
          | exact Sim.nope
          | skip
         refine Sim.rootOf fun c tr dr bx _ _=>?_
         cases hok:okX tr dr p with
         | none=>exact Sim.nope
         | some as=>
           refine Sim.need (fun hb ha=>?_) fun hb ha=>Sim.out' (by simp only[SV.conc,X.den,Un.sem,z28]);simp only[Bool.and_eq_true,decide_eq_true_eq]at hb;exact⟨by rw[z0n]; exact z0l hb.1,by rw[z1d]; exact hb.2.1,z5N ρ p hok ha,hb.2.2.1,hb.2.2.2⟩
       | _=>exact Sim.nope
   | _=>exact Sim.nope
 | _=>exact Sim.nope
end
end Go.Own
namespace Go.Own
variable [Glb]
noncomputable section
open Go
variable {P : Program} {cs : List Ent} {ρ : List D} {Γ : Env} {S : List SC}
section
variable (Γ : Env) (S : List SC)
def sbnd (x:Option Operand) (k:Option X->OR):OR:=match x with
 | none=>k none
 | some x=>sopd S x fun a=>match a with
   | .val (.int _) n=>k (some n)
   | _=>none
def loX:Option X->X
 | none=>.i 0
 | some n=>n
def hiX (len:X):Option X->X
 | none=>len
 | some n=>n
def zQY (dst:Option Nat) (t:TypeId) (x:Operand) (lo hi mx:Option Operand):OR:=match mx with
 | some _=>none
 | none=>sopd S x fun a=>sbnd S lo fun l=>sbnd S hi fun h=>match a with
   | .val .str d=>z0r (decide (Γ.ty t=.str)) [.tri .slOk (loX l) (hiX (.un .slen d) h) (.un .slen d)] (sout Γ S dst (.val .str (.tri .ssub d (loX l) (hiX (.un .slen d) h))))
   | .val (.lst false e) d=>z0r ((Γ.ty t).lsts&&decide (e.view=(Γ.ty t).elem.view)) [.tri .slOk (loX l) (hiX (z91 d) h) (z91 d)] (sout Γ S dst (.val (.lst false e) (.tri .sub d (loX l) (hiX (z91 d) h))))
   | .ref r v p (.lst true e) _=>z4k S r fun cr tr dr _=>match okX tr dr p with
     | none=>none
     | some as=>z0r (z29 v cr.v (z2W p)&&(decide (sAt tr p=.lst true e)&&((Γ.ty t).lsts&&decide (e.view=(Γ.ty t).elem.view)))) (as++[.tri .slOk (loX l) (hiX (z91 (getX dr p)) h) (z91 (getX dr p))])
        (sout Γ S dst (.win r cr.v p e (loX l) (.bi .monus (hiX (z91 (getX dr p)) h) (loX l))))
   | _=>none
def zSg:SV->Bool
 | .bref ..=>false
 | _=>true
def clrX (L lo n z:X):X:=.bi .app (.bi .app (.tri .part L (.i 0) lo) (.bi .rep n z)) (.tri .part (.tri .part L lo (z91 L)) n (z91 L))
def zQS (dst:Option Nat) (t:TypeId) (x:Operand):OR:=match dst,x with
 | none,.tmp s=>askS S s fun c=>match c.av with
   | .win r v p e lo n=>z4k S r fun cr tr dr _=>match okX tr dr p with
     | none=>none
     | some as=>z0r (z29 v cr.v (z2W p)&&(decide (sAt tr p=.lst true e)&&(e.plain&&((Γ.ty t).lsts&&(decide (e=(Γ.ty t).elem)&&(!Nat.beq e.size 0&&zSg cr.av)))))) (as++[.tri .winOk lo n (getX dr p)])
        (retS [(r,cr.setRoot tr (setX dr p (clrX (getX dr p) lo n (.z e))) cr.v)])
   | _=>none
 | _,_=>none
def zJz (mx:Bool) (dst:Option Nat) (xs:List Operand):OR:=match xs with
 | [x,y]=>sopd S x fun a=>sopd S y fun b=>match a,b with
   | .val (.int k) m,.val (.int k') n=>z0r (decide (k=k')) [] (sout Γ S dst (.val (.int k) (if mx then .bi .greater m n else .bi .lesser m n)))
   | _,_=>none
 | [x,y,w]=>sopd S x fun a=>sopd S y fun b=>sopd S w fun c=>match a,b,c with
   | .val (.int k) m,.val (.int k') n,.val (.int k'') q=>z0r (decide (k=k')&&decide (k=k'')) [] (sout Γ S dst (.val (.int k) (if mx then .bi .greater (.bi .greater m n) q else .bi .lesser (.bi .lesser m n) q)))
   | _,_,_=>none
 | _=>none
def zSt (y:Operand) (k:Option T->X->SWr->OR):OR:=
 match y with
 | .tmp q=>askS S q fun c=>match c.av with
   | .val (.lst true e) d=>k (some e) d [(q,⟨.undef,c.v.kill⟩)]
   | .val (.lst false e) d=>z0r e.plain [] (k (some e) d [])
   | .ref r v p (.lst true e) _=>z4k S r fun cr tr dr _=>match okX tr dr p with
     | none=>none
     | some as=>z0r (z29 v cr.v (z2W p)&&(decide (sAt tr p=.lst true e)&&e.plain)) as (k (some e) (getX dr p) [])
   | .win r v p e lo n=>z4k S r fun cr tr dr _=>match okX tr dr p with
     | none=>none
     | some as=>z0r (z29 v cr.v (z2W p)&&(decide (sAt tr p=.lst true e)&&e.plain)) as (k (some e) (.tri .part (getX dr p) lo n) [])
   | .nil=>k none .nil []
   | _=>none
 | .const (.slice none 0 0)=>k none .nil []
 | _=>none
def zN0 (dst:Option Nat) (t u:TypeId) (x y:Operand):OR:=match dst with
 | none=>none
 | some s=>askS S s fun cd=>z0r (z9N Γ s&&((Γ.ty t).lsts&&(Γ.ty u).lsts)) [] (zSt S y fun e2 ys ws=>z8S S ws (Γ.ty t) x fun ty d ws'=>
    match ty with
    | .lst true e0=>z0r (decide ((e2.getD e0).view=(Γ.ty t).elem.view)&&((decide (e2.getD e0=e0)||(d.beq .nil&&decide (e0.view=(e2.getD e0).view)))&&(!Nat.beq (e2.getD e0).size 0&&((e2.getD e0).sound && !inN ((ws++ws').map (·.1)) s)))) [.bi (.appOk (Γ.eb t)) d ys]
       (retS (ws++ws'++[(s,⟨.val (.lst true (e2.getD e0)) (.bi .app d ys),cd.v.kill⟩)]))
    | _=>none)
end
theorem zCr (l:Option X):((loX l).den ρ).i=loOf (l.map (X.den ρ)):=by cases l <;> rfl
theorem zCn {len:X} {n:Nat} (hl:(len.den ρ).i=n) (h:Option X):((hiX len h).den ρ).i=hiOf n (h.map (X.den ρ)):=by cases h <;> simp[hiX,hiOf,hl]
theorem Sim.bnd {x:Option Operand} {k:Option X->OR} {k':Option D->A} (h:∀d,Sim P cs ρ S (k d) (k' (d.map (X.den ρ)))):Sim P cs ρ S (sbnd S x k) (bnd x k'):=by
 unfold sbnd Own.bnd
 cases x with
 | none=>exact h none
 | some o=>
   refine Sim.opd fun a=>?_
   cases a with
   | val t d=>
     cases t with
     | int k=>exact h (some d)
     | _=>exact Sim.nope
   | _=>exact Sim.nope
theorem zH2 {lo hi n:X} (h:((X.tri .slOk lo hi n).den ρ).b=true):0<=(lo.den ρ).i/\(lo.den ρ).i<=(hi.den ρ).i/\(hi.den ρ).i<=(n.den ρ).i:=by
 simpa [X.den,Tri.sem]using h
theorem Sim.slice {dst:Option Nat} {t:TypeId} {x:Operand} {lo hi mx:Option Operand}:Sim P cs ρ S (zQY Γ S dst t x lo hi mx) (zGV Γ dst t x lo hi mx):=by
 unfold zQY zGV
 cases mx with
 | some _=>exact Sim.nope
 | none=>
   refine Sim.opd fun a=>Sim.bnd fun l=>Sim.bnd fun h=>?_
   cases a with
   | val ty d=>
     cases ty with
     | str=>
       have hn:((X.un .slen d).den ρ).i=(d.den ρ).s.length:=rfl;refine Sim.need (fun hb ha=>?_) fun _ _=>Sim.out' ?_
       ·have h1:=zH2 (ha _ (List.mem_singleton.2 rfl));rw[zCr,zCn hn,hn]at h1;exact⟨by simpa using hb,h1⟩
       ·simp only[SV.conc,X.den,Tri.sem];rw[zCr,zCn hn]
     | lst o e=>
       cases o with
       | true=>exact Sim.nope
       | false=>
         have hn:((z91 d).den ρ).i=(d.den ρ).l.length:=by rw[z9L]; rfl
         refine Sim.need (fun hb ha=>?_) fun _ _=>Sim.out' ?_
         ·have h1:=zH2 (ha _ (List.mem_singleton.2 rfl));rw[zCr,zCn hn,hn]at h1;simp only[Bool.and_eq_true,decide_eq_true_eq]at hb;exact⟨hb.1,hb.2,h1⟩
         ·simp only[SV.conc,X.den,Tri.sem];rw[zCr,zCn hn]
     | _=>exact Sim.nope
   | ref r v p ty d=>
     cases ty with
     | lst o e=>
       cases o with
       | false=>exact Sim.nope
       | true=>
         refine Sim.rootOf fun c tr dr bx _ _=>?_
         cases hok:okX tr dr p with
         | none=>exact Sim.nope
         | some as=>
           have hn:((z91 (getX dr p)).den ρ).i=((dr.den ρ).get (z0Z.conc ρ p)).l.length:=by rw[z9L,z28]; rfl
           refine Sim.need (fun hb ha=>?_) fun _ _=>Sim.out' ?_
           ·have h1:=zH2 (ha (.tri .slOk (loX l) (hiX (z91 (getX dr p)) h) (z91 (getX dr p))) (by simp));rw[zCr,zCn hn,hn]at h1;simp only[Bool.and_eq_true,decide_eq_true_eq]at hb;exact⟨by rw[z0n]; exact z0l hb.1,by rw[z1d]; exact hb.2.1,z5N ρ p hok (fun a hm=>ha a (by simp[hm])),hb.2.2.1,hb.2.2.2,h1⟩
           ·simp only[SV.conc,X.den,Bi.sem];rw[zCr,zCn hn];simp only[D.i_int,Int.toNat_natCast,SC.conc]
     | _=>exact Sim.nope
   | _=>exact Sim.nope
theorem Sim.minMax {mx:Bool} {dst:Option Nat} {xs:List Operand}:Sim P cs ρ S (zJz Γ S mx dst xs) (zA2 Γ mx dst xs):=by
 unfold zJz zA2
 split
 ·refine Sim.opd fun a=>Sim.opd fun b=>?_
  cases a with
  | val t m=>
    cases b with
    | val t2 n=>
      cases t <;> cases t2 <;> first | exact Sim.nope | skip
      refine Sim.needB (fun hb=>by simpa using hb) fun _=>Sim.out' ?_
      cases mx <;> rfl
    | _=>cases t <;> exact Sim.nope
  | _=>exact Sim.nope
 ·refine Sim.opd fun a=>Sim.opd fun b=>Sim.opd fun c=>?_
  cases a with
  | val t m=>
    cases b with
    | val t2 n=>
      cases c with
      | val t3 q=>
        cases t <;> cases t2 <;> first | exact Sim.nope | skip
        cases t3 <;> first | exact Sim.nope | skip
        refine Sim.needB (fun hb=>by simpa using hb) fun _=>Sim.out' ?_
        cases mx <;> rfl
      | _=>cases t <;> cases t2 <;> exact Sim.nope
    | _=>cases t <;> exact Sim.nope
  | _=>exact Sim.nope
 ·exact Sim.nope
theorem zQy (L lo n z:X):(clrX L lo n z).den ρ=.lst ((L.den ρ).l.take (lo.den ρ).i.toNat++List.replicate (n.den ρ).i.toNat (z.den ρ)++(L.den ρ).l.drop ((lo.den ρ).i.toNat+(n.den ρ).i.toNat)):=by
 unfold clrX
 have h:((z91 L).den ρ).i.toNat=(L.den ρ).l.length:=by rw[z9L]; simp
 simp only[X.den,Bi.sem,Tri.sem,D.l_lst,h,D.i_int,Int.toNat_zero,List.drop_zero]
 congr 2
 rw[List.take_of_length_le (l:=List.drop (lo.den ρ).i.toNat (L.den ρ).l) (by simp),List.drop_drop,List.take_of_length_le (by simp)]
theorem Sim.clear {dst:Option Nat} {t:TypeId} {x:Operand}:Sim P cs ρ S (zQS Γ S dst t x) (zGT Γ dst t x):=by
 unfold zQS zGT
 split
 ·rename_i s;refine Sim.ask ?_;generalize sget S s=c;obtain⟨a,v⟩:=c
  cases a with
  | win r v p e lo n=>
    refine Sim.rootOf fun c tr dr bx _ hr=>?_
    cases hok:okX tr dr p with
    | none=>exact Sim.nope
    | some as=>
      refine Sim.need (fun hb ha=>?_) fun hb ha=>Sim.ret' ?_
      ·simp only[Bool.and_eq_true,decide_eq_true_eq,Bool.not_eq_true']at hb;obtain⟨h1,h2,h3,h4,h5,h6,h7⟩:=hb;have hw:=ha _ (List.mem_append_right _ (List.mem_singleton.2 rfl));simp only[X.den,Tri.sem,z28,D.b_bool,decide_eq_true_eq]at hw;refine⟨by rw[z0n]; exact z0l h1,by rw[z1d]; exact h2,z5N ρ p hok fun a h=>ha a (List.mem_append_left _ h),h3,h4,h5,z3a h6,hw,?_⟩;obtain⟨a,v'⟩:=c
       cases a <;> simp only[SC.root,Option.some.injEq,Prod.mk.injEq,reduceCtorEq]at hr
       ·obtain⟨rfl,rfl,rfl⟩:=hr; rfl
       ·obtain⟨rfl,rfl,rfl⟩:=hr; rfl
       ·obtain⟨rfl,rfl,rfl⟩:=hr; rfl
       ·cases h7
      ·rw[z4T,SC.setRoot_conc,z7s,zQy,z28]; rfl
  | _=>exact Sim.nope
 ·exact Sim.nope
theorem Sim.srcW {y:Operand} {k:Option T->X->SWr->OR} {k':Option T->List D->Wr->A} (h:∀e x w,Sim P cs ρ S (k e x w) (k' e (x.den ρ).l (z3V ρ w))):Sim P cs ρ S (zSt S y k) (srcW y k'):=by
 unfold zSt Own.srcW
 split
 ·rename_i q;refine Sim.ask ?_;generalize sget S q=c;obtain⟨a,v⟩:=c
  cases a with
  | val ty d=>
    cases ty with
    | lst o e=>
      cases o with
      | true=>exact h (some e) d _
      | false=>exact Sim.needB (fun hb=>hb) fun _=>h (some e) d []
    | _=>exact Sim.nope
  | ref r v p ty d=>
    cases ty with
    | lst o e=>
      cases o with
      | false=>exact Sim.nope
      | true=>
        refine Sim.rootOf fun c tr dr bx _ _=>?_
        cases hok:okX tr dr p with
        | none=>exact Sim.nope
        | some as=>
          refine Sim.need (fun hb ha=>?_) fun _ _=>?_
          ·simp only[Bool.and_eq_true,decide_eq_true_eq]at hb;exact⟨by rw[z0n]; exact z0l hb.1,by rw[z1d]; exact hb.2.1,z5N ρ p hok ha,hb.2.2⟩
          ·have:=h (some e) (getX dr p) []
           rwa [z28]at this
    | _=>exact Sim.nope
  | win r v p e lo n=>
    refine Sim.rootOf fun c tr dr bx _ _=>?_
    cases hok:okX tr dr p with
    | none=>exact Sim.nope
    | some as=>
      refine Sim.need (fun hb ha=>?_) fun _ _=>?_
      ·simp only[Bool.and_eq_true,decide_eq_true_eq]at hb;exact⟨by rw[z0n]; exact z0l hb.1,by rw[z1d]; exact hb.2.1,z5N ρ p hok ha,hb.2.2⟩
      ·have:=h (some e) (.tri .part (getX dr p) lo n) [];simp only[X.den,Tri.sem,D.l_lst,z28]at this;exact this
  | nil=>exact h none .nil []
  | _=>exact Sim.nope
 ·exact h none .nil []
 ·exact Sim.nope
theorem Sim.append {dst:Option Nat} {t u:TypeId} {x y:Operand}:Sim P cs ρ S (zN0 Γ S dst t u x y) (zC5 Γ dst t u x y):=by
 unfold zN0 zC5
 cases dst with
 | none=>exact Sim.nope
 | some s=>
   refine Sim.ask (Sim.needB (fun hb=>?_) fun _=>Sim.srcW fun e2 ys ws=>Sim.takeW fun ty d ws'=>?_)
   ·simp only[Bool.and_eq_true]at hb;exact⟨(z1P hb.1).1,(z1P hb.1).2,hb.2.1,hb.2.2⟩
   ·cases ty with
    | lst o e=>
      cases o with
      | false=>exact Sim.nope
      | true=>
        refine Sim.need (fun hb ha=>?_) fun _ _=>Sim.ret' ?_
        ·simp only[Bool.and_eq_true,decide_eq_true_eq,Bool.not_eq_true']at hb;have h1:=ha _ (List.mem_singleton.2 rfl);simp only[X.den,Bi.sem,D.b_bool,Bool.and_eq_true,decide_eq_true_eq]at h1;refine⟨hb.1,?_,z3a hb.2.2.1,hb.2.2.2.1,?_,h1.1,h1.2⟩
         ·have h2:=hb.2.1;simp only[Bool.or_eq_true,Bool.and_eq_true,decide_eq_true_eq]at h2;rcases h2 with h2 | ⟨h2,h3⟩
          ·exact .inl h2
          ·exact .inr ⟨by rw[X.eq_of_beq h2]; rfl,h3⟩
         ·rw[<- z0y]; exact zNq hb.2.2.2.2
        ·rw[z0y,z0y,z4T,z8E]; rfl
    | _=>exact Sim.nope
end
end Go.Own
namespace Go.Own
variable [Glb]
noncomputable section
open Go
variable {P : Program} {cs : List Ent} {ρ : List D} {Γ : Env} {S : List SC}
def SCap.lt (d:Nat):SCap->Bool
 | .val _ x=>x.lt d
 | .ptr _ _ p=>z0Z.lt d p
def SV.lt (d:Nat):SV->Bool
 | .val _ x=>x.lt d
 | .tup _ x=>x.lt d
 | .box _ x=>x.lt d
 | .ref _ _ p _ x=>z0Z.lt d p&&x.lt d
 | .win _ _ p _ lo n=>z0Z.lt d p&&(lo.lt d&&n.lt d)
 | .ptr _ _ p=>z0Z.lt d p
 | .clo _ l=>l.all (SCap.lt d)
 | .bref _ x _ _ p=>z0Z.lt d p&&x.lt d
 | _=>true
theorem SV.conc_append {l:List D} {a:SV} (h:a.lt ρ.length=true):a.conc (ρ++l)=a.conc ρ:=by
 cases a <;> simp only[SV.lt,Bool.and_eq_true]at h <;> simp only[SV.conc]
 case val=>rw[X.den_append l h]
 case tup=>rw[X.den_append l h]
 case box=>rw[X.den_append l h]
 case ref=>rw[X.den_append l h.2,z0Z.conc_append l h.1]
 case win=>rw[X.den_append l h.2.1,X.den_append l h.2.2,z0Z.conc_append l h.1]
 case ptr=>rw[z0Z.conc_append l h]
 case bref=>rw[X.den_append l h.2,z0Z.conc_append l h.1]
 case clo f q=>
  congr 1;apply List.map_congr_left;intro c hc;have:=List.all_eq_true.1 h c hc
  cases c <;> simp only[SCap.lt]at this <;> simp only[SCap.conc]
  ·rw[X.den_append l this]
  ·rw[z0Z.conc_append l this]
def ltL (d:Nat) (l:List SC):Bool:=l.all fun c=>c.av.lt d
theorem SC.conc_append {l:List D} {c:SC} (h:c.av.lt ρ.length=true):c.conc (ρ++l)=c.conc ρ:=by
 unfold SC.conc; rw[SV.conc_append h]
theorem z9k {d:Nat}:∀{l:List SC} (h:ltL d l=true) (s:Nat),(sget l s).av.lt d=true
 | [],_,_=>rfl
 | c::l,h,0=>by simp[ltL]at h; exact h.1
 | c::l,h,s+1=>by simp[ltL]at h; exact z9k (l:=l) (by simp[ltL]; exact h.2) s
theorem zKR {l:List D} (h:ltL ρ.length S=true):z1Q (ρ++l) S=z1Q ρ S:=by
 unfold z1Q
 congr 1
 apply List.map_congr_left
 intro c hc
 exact SC.conc_append (by simp only[ltL,List.all_eq_true]at h; exact h c hc)
theorem zOp {d t:Nat} {c:SC} (h:c.av.lt d=true):(z5d t c).lt d=true:=by
 obtain⟨a,v⟩:=c
 cases a with
 | val ty x=>
   simp only[z5d];split
   ·exact h
   ·unfold zSB;split
    ·rfl
    ·simp[SV.lt,z0Z.lt]; exact h
 | box=>simp[z5d,SV.lt,z0Z.lt]
 | bref=>simp[z5d,SV.lt,z0Z.lt]
 | tup=>rfl
 | _=>exact h
theorem Sim.opd_lt (hS:ltL ρ.length S=true) {x:Operand} {k:SV->OR} {k':AV->A} (h:∀a,a.lt ρ.length=true->Sim P cs ρ S (k a) (k' (a.conc ρ))):Sim P cs ρ S (sopd S x k) (Own.opd x k'):=by
 unfold sopd Own.opd
 split
 ·refine Sim.ask ?_;rw[<- z5j]; exact h _ (zOp (z9k hS _))
 ·exact Sim.needB (fun hb=>by simpa using hb) fun _=>h _ rfl
 ·exact h _ rfl
 ·exact Sim.needB (fun hb=>Nat.le_of_ble_eq_true hb) fun _=>h _ rfl
 ·exact h _ rfl
 ·exact h _ rfl
 ·exact h _ rfl
 ·exact Sim.nope
structure SArg where
 m:Mode
 t:T
 x:X
def SArg.conc (ρ:List D) (a:SArg):Arg:=⟨a.m,a.t,a.x.den ρ⟩
structure SIo where
 r:Nat
 p:z0Z
 c:SC
 t:T
 x:X
def SIo.conc (ρ:List D) (i:SIo):Io:=⟨i.r,z0Z.conc ρ i.p,i.c.conc ρ,i.t,i.x.den ρ⟩
def SIo.lt (d:Nat) (i:SIo):Bool:=z0Z.lt d i.p&&(i.c.av.lt d&&i.x.lt d)
section
variable (Γ : Env) (S : List SC)
def z9j:List SCap->(T->X->List Nat->OR)->OR
 | [],k=>k .unit .u []
 | .val t x::l,k=>z9j l fun T' X' br=>k (.pair t T') (.bi .pair x X') br
 | .ptr r v p::l,k=>z4k S r fun cr tr dr bx=>match okX tr dr p with
   | none=>none
   | some as=>z0r (z64 v cr.v (z2W p)&&(bx || !Nat.beq (z2W p) 0)) as (z9j l fun T' X' br=>k (.pair (.ptr (sAt tr p).view) T') (.bi .pair (getX dr p) X') (r::br))
def zK4 (m:Mode) (ty:TypeId) (x:Operand) (k:SArg->List Nat->Option SIo->OR):OR:=sopd S x fun a=>
 match m with
 | .vw=>match a with
   | .val t d=>k ⟨.vw,t,d⟩ [] none
   | .ref r v p t d=>z4k S r fun cr tr dr _=>match okX tr dr p with
     | none=>none
     | some as=>z0r (z29 v cr.v (z2W p)&&decide (sAt tr p=t)) as (k ⟨.vw,t.view,smix t d (getX dr p)⟩ [r] none)
   | .nil=>match Γ.ty ty with
     | .lst _ e=>k ⟨.vw,.lst false e.view,.nil⟩ [] none
     | _=>none
   | .clo f l=>z9j S l fun T' X' br=>k ⟨.vw,.fn f T',X'⟩ br none
   | _=>none
 | .io=>match a with
   | .ref r v p t d=>z4k S r fun cr tr dr _=>match okX tr dr p with
     | none=>none
     | some as=>z0r (z29 v cr.v (z2W p)&&decide (sAt tr p=t)) as (k ⟨.io,t,smix t d (getX dr p)⟩ [] (some ⟨r,p,cr,tr,dr⟩))
   | _=>none
 | .iop=>match a with
   | .ptr r v []=>z4k S r fun cr tr dr bx=>z0r (z64 v cr.v 0&&bx) [] (k ⟨.iop,tr,dr⟩ [] (some ⟨r,[],cr,tr,dr⟩))
   | _=>none
 | .own=>none
def z6l:List (Mode×TypeId×Operand)->List SArg->List Nat->Option (Nat×SIo)->(List SArg->List Nat->Option (Nat×SIo)->OR)->OR
 | [],as,br,io,k=>k as br io
 | (m,ty,x)::xs,as,br,io,k=>zK4 Γ S m ty x fun a b i=>match i with
   | none=>z6l xs (as++[a]) (br++b) io k
   | some i=>match io with
     | none=>z6l xs (as++[a]) (br++b) (some (as.length,i)) k
     | some _=>none
def zAn (fz:Bool) (g:FuncId) (as:List (Mode×T)):List Ent->Nat->Option (Nat×Ent)
 | [],_=>none
 | e::es,n=>if (Nat.beq e.g g&&decide (e.as=as))&&(!fz||e.res.plain)then some (n,e)else zAn fz g as es (n+1)
def callS (n:Nat) (xs:List X) (W:SWr):OR:=some ⟨[],[],some (n,xs),W⟩
def zLR:List (Mode×T)->X->List X
 | [],_=>[]
 | (.io,_)::as,x=>z6I x 0::zLR as (mkTl x)
 | (.iop,_)::as,x=>z6I x 0::zLR as (mkTl x)
 | _::as,x=>.u::zLR as x
def Ent.sv (e:Ent) (x:X):SV:=if e.one then .val e.res x else .tup e.res x
def zNI (as:List SArg) (j:Nat):Bool:=match as[j]? with | some a=>decide (a.m=.iop) | none=>false
def zSy (as:List SArg) (j:Nat):Bool:=match as[j]? with | some a=>a.t.noview | none=>false
def zLl (fz:Bool) (cs:List Ent) (d s:Nat) (g:FuncId) (v:Ver) (as:List SArg) (br:List Nat) (io:Option (Nat×SIo)):OR:=
    match zAn fz g (as.map fun a=>(a.m,a.t)) cs 0 with
    | none=>none
    | some (n,e)=>z0r (br.isEmpty||e.res.noview) [] (match io with
      | none=>z0r (!z6q e.as) [] (callS n (as.map (·.x)) [(s,⟨e.sv (.v d),v.kill⟩)])
      | some (j,i)=>z0r (z6q e.as) [] (z0r (!inN br i.r&&(!Nat.beq i.r s&&(br.isEmpty||zSy as j))) []
        (callS n (as.map (·.x)) [(i.r,if zNI as j then i.c.setRoot i.t ((zLR e.as (mkTl (.v d))).getD j .u) i.c.v.head
          else i.c.setRoot i.t (setX i.x i.p (zQa (sAt i.t i.p) (getX i.x i.p) ((zLR e.as (mkTl (.v d))).getD j .u))) i.c.v.cont),(s,⟨e.sv (z6I (.v d) 0),v.kill⟩)])))
def zQQ (cs:List Ent) (d:Nat) (dst:Option Nat) (g:FuncId) (ty:TypeId) (x:Operand) (xs:List (Mode×TypeId×Operand)):OR:=
 match dst with
 | none=>none
 | some s=>askS S s fun cd=>z0r (z9N Γ s) [] (z8S S [] (Γ.ty ty) x fun t y ws=>z6l Γ S xs [] [] none fun as br io=>match io with
   | some _=>none
   | none=>z0r (!inN (ws.map (·.1)) s&&br.all (fun r=>!inN (ws.map (·.1)) r)) [] (if ws.all (fun x=>x.2.av.lt d)then
      match zAn (inN Γ.fr s) g ((⟨.own,t,y⟩::as:List SArg).map fun a=>(a.m,a.t)) cs 0 with
      | none=>none
      | some (n,e)=>z0r ((br.isEmpty||e.res.noview) && !z6q e.as) [] (callS n ((⟨.own,t,y⟩::as:List SArg).map (·.x)) (ws++[(s,⟨e.sv (.v d),cd.v.kill⟩)]))
     else none))
def zTR (cs:List Ent) (d:Nat) (dst:Option Nat) (g:FuncId) (xs:List (Mode×TypeId×Operand)):OR:=match xs with
 | (.own,ty,x)::xs=>zQQ Γ S cs d dst g ty x xs
 | xs=>match dst with
 | none=>none
 | some s=>askS S s fun cd=>z0r (z9N Γ s) [] (z6l Γ S xs [] [] none fun as br io=>zLl (inN Γ.fr s) cs d s g cd.v as br io)
def zCI:T->X->List SArg
 | .pair t T',d=>⟨.vw,t,z6I d 0⟩::zCI T' (mkTl d)
 | _,_=>[]
def zQR (cs:List Ent) (d:Nat) (dst:Option Nat) (q:Nat) (xs:List (TypeId×Operand)):OR:=
 match dst with
 | none=>none
 | some s=>askS S s fun cd=>z0r (z9N Γ s) [] (z6l Γ S (xs.map fun x=>(.vw,x.1,x.2)) [] [] none fun as br io=>match io with
   | some _=>none
   | none=>askS S q fun c=>match c.av with
     | .val (.fn f T') x=>z0r (zKO T') [] (zLl (inN Γ.fr s) cs d s f cd.v (as++zCI T' x) br none)
     | _=>none)
def zH0:List Operand->(List SCap->OR)->OR
 | [],k=>k []
 | x::xs,k=>sopd S x fun a=>match a with
   | .val t d=>z0r (t.plain && !t.agg) [] (zH0 xs fun l=>k (.val t d::l))
   | .ptr r v p=>zH0 xs fun l=>k (.ptr r v p::l)
   | _=>none
def zLh (dst:Option Nat) (f:FuncId) (caps:List Operand):OR:=zH0 S caps fun l=>sout Γ S dst (.clo f l)
end
theorem z9D {fz:Bool} {g:FuncId} {as:List (Mode×T)}:∀{l:List Ent} {k n:Nat} {e:Ent},zAn fz g as l k=some (n,e)->k<=n/\l[n-k]? = some e/\e.g=g/\e.as=as
 | [],_,_,_,h=>by cases h
 | a::l,k,n,e,h=>by
   unfold zAn at h;split at h
   ·rename_i hb;simp only[Option.some.injEq,Prod.mk.injEq]at h;obtain⟨rfl,rfl⟩:=h;rw[Bool.and_eq_true,Bool.and_eq_true,decide_eq_true_eq]at hb;exact⟨Nat.le_refl _,by simp,Nat.eq_of_beq_eq_true hb.1.1,hb.1.2⟩
   ·obtain⟨h1,h2,h3⟩:=z9D h;refine⟨by omega,?_,h3⟩;rw[show n-k=(n-(k+1))+1 by omega];simpa using h2
theorem zLS:∀(as:List (Mode×T)) (x:X),(zLR as x).map (X.den ρ)=z5M as (x.den ρ)
 | [],_=>rfl
 | (m,t)::as,x=>by
   cases m <;> simp[zLR,z5M,zLS as,z39,zF7,X.den]
theorem zB0:∀(as:List SArg),z2A (as.map fun a=>(a.m,a.t)) (as.map fun a=>a.x.den ρ)=as.map (SArg.conc ρ)
 | []=>rfl
 | a::as=>by simp[z2A,zB0 as,SArg.conc]
theorem zQO {d:Nat} {c:SC} {t:T} {x:X} {bx:Bool} (h:c.av.lt d=true) (hr:c.root=some (t,x,bx)):x.lt d=true:=by
 obtain⟨a,v⟩:=c
 cases a <;> simp[SC.root]at hr
 ·obtain⟨_,rfl,_⟩:=hr; exact h
 ·obtain⟨_,rfl,_⟩:=hr; exact h
 ·obtain⟨_,rfl,_⟩:=hr; exact h
 ·obtain⟨_,rfl,_⟩:=hr; simp only[SV.lt,Bool.and_eq_true]at h; exact h.2
theorem Sim.evalCaps:∀(l:List SCap) {k:T->X->List Nat->OR} {k':T->D->List Nat->A},(∀t x br,Sim P cs ρ S (k t x br) (k' t (x.den ρ) br))->Sim P cs ρ S (z9j S l k) (evalCaps (l.map (SCap.conc ρ)) k')
 | [],k,k',h=>h .unit .u []
 | .val t x::l,k,k',h=>Sim.evalCaps l fun T' X' br=>h (.pair t T') (.bi .pair x X') br
 | .ptr r v p::l,k,k',h=>by
   unfold z9j;simp only[List.map_cons,SCap.conc,Own.evalCaps];refine Sim.rootOf fun c tr dr bx _ _=>?_
   cases hok:okX tr dr p with
   | none=>exact Sim.nope
   | some as=>
     refine Sim.need (fun hb ha=>?_) fun hb ha=>Sim.evalCaps l fun T' X' br=>?_
     ·simp only[Bool.and_eq_true]at hb;exact⟨by rw[z0n]; exact z3C hb.1,z5N ρ p hok ha,zFN hb.2⟩
     ·have:=h (.pair (.ptr (sAt tr p).view) T') (.bi .pair (getX dr p) X') (r::br);simp only[X.den,Bi.sem,z28]at this;rw[z1d]; exact this
theorem Sim.evalArg (hS:ltL ρ.length S=true) {m:Mode} {ty:TypeId} {x:Operand} {k:SArg->List Nat->Option SIo->OR} {k':Arg->List Nat->Option Io->A}
 (h:∀a b i,a.m=m->(∀q,i=some q->q.lt ρ.length=true)->(i.isSome=true->m=.io\/m=.iop)->(i=none->m=.vw)->Sim P cs ρ S (k a b i) (k' (a.conc ρ) b (i.map (SIo.conc ρ)))) :
 Sim P cs ρ S (zK4 Γ S m ty x k) (evalArg Γ m ty x k'):=by
 unfold zK4 Own.evalArg
 refine Sim.opd_lt hS fun a ha=>?_
 cases m with
 | vw=>
   cases a with
   | val t d=>exact h ⟨.vw,t,d⟩ [] none rfl (by simp) (by simp) (fun _=>rfl)
   | ref r v p t d=>
     refine Sim.rootOf fun c tr dr bx hc hr=>?_
     cases hok:okX tr dr p with
     | none=>exact Sim.nope
     | some as=>
       refine Sim.need (fun hb ha=>?_) fun hb ha=>?_
       ·simp only[Bool.and_eq_true,decide_eq_true_eq]at hb;exact⟨by rw[z0n]; exact z0l hb.1,by rw[z1d]; exact hb.2,z5N ρ p hok ha⟩
       ·have:=h ⟨.vw,t.view,smix t d (getX dr p)⟩ [r] none rfl (by simp) (by simp) (fun _=>rfl);simpa only[SArg.conc,zA3,z28,Option.map_none]using this
   | nil=>
     dsimp only[SV.conc]
     cases Γ.ty ty with
     | lst o e=>exact h ⟨.vw,.lst false e.view,.nil⟩ [] none rfl (by simp) (by simp) (fun _=>rfl)
     | _=>exact Sim.nope
   | clo f l=>exact Sim.evalCaps l fun T' X' br=>h ⟨.vw,.fn f T',X'⟩ br none rfl (by simp) (by simp) (fun _=>rfl)
   | _=>exact Sim.nope
 | io=>
   cases a with
   | ref r v p t d=>
     refine Sim.rootOf fun c tr dr bx hc hr=>?_
     cases hok:okX tr dr p with
     | none=>exact Sim.nope
     | some as=>
       refine Sim.need (fun hb ha=>?_) fun hb ha'=>?_
       ·simp only[Bool.and_eq_true,decide_eq_true_eq]at hb;exact⟨by rw[z0n]; exact z0l hb.1,by rw[z1d]; exact hb.2,z5N ρ p hok ha⟩
       ·have hlc:=z9k hS r;rw[<- hc]at hlc;simp only[SV.lt,Bool.and_eq_true]at ha;have:=h ⟨.io,t,smix t d (getX dr p)⟩ [] (some ⟨r,p,c,tr,dr⟩) rfl (by
         intro q hq; cases hq;simp only[SIo.lt,Bool.and_eq_true];exact⟨ha.1,hlc,zQO hlc hr⟩) (fun _=>.inl rfl) (by simp)
        simpa only[SArg.conc,zA3,z28,Option.map_some,SIo.conc]using this
   | _=>exact Sim.nope
 | iop=>
   cases a with
   | ptr r v p=>
     cases p with
     | cons _ _=>exact Sim.nope
     | nil=>
       refine Sim.rootOf fun c tr dr bx hc hr=>?_;refine Sim.needB (fun hb=>?_) fun hb=>?_
       ·simp only[Bool.and_eq_true]at hb;exact⟨z3C hb.1,hb.2⟩
       ·have hlc:=z9k hS r;rw[<- hc]at hlc;exact h ⟨.iop,tr,dr⟩ [] (some ⟨r,[],c,tr,dr⟩) rfl (by
         intro q hq; cases hq;simp only[SIo.lt,Bool.and_eq_true];exact⟨rfl,hlc,zQO hlc hr⟩) (fun _=>.inr rfl) (by simp)
   | _=>exact Sim.nope
 | own=>cases a <;> exact Sim.nope
def zL5 (ρ:List D) (io:Option (Nat×SIo)):Option (Nat×Io):=io.map fun x=>(x.1,x.2.conc ρ)
theorem Sim.evalArgs (hS:ltL ρ.length S=true):∀(xs:List (Mode×TypeId×Operand)) {as:List SArg} {br:List Nat} {io:Option (Nat×SIo)} {k:List SArg->List Nat->Option (Nat×SIo)->OR} {k':List Arg->List Nat->Option (Nat×Io)->A},
 (∀as br io,(∀q,io=some q->q.2.lt ρ.length=true)->Sim P cs ρ S (k as br io) (k' (as.map (SArg.conc ρ)) br (zL5 ρ io))) ->
 (∀q,io=some q->q.2.lt ρ.length=true)->Sim P cs ρ S (z6l Γ S xs as br io k) (evalArgs Γ xs (as.map (SArg.conc ρ)) br (zL5 ρ io) k')
 | [],as,br,io,k,k',h,hio=>h as br io hio
 | (m,ty,x)::xs,as,br,io,k,k',h,hio=>by
   unfold z6l Own.evalArgs;refine Sim.evalArg hS fun a b i hm hi _ _=>?_;have e:as.map (SArg.conc ρ)++[a.conc ρ]=(as++[a]).map (SArg.conc ρ):=by simp
   cases i with
   | none=>
     simp only[Option.map_none];rw[e];exact Sim.evalArgs hS xs h hio
   | some i=>
     cases io with
     | some q=>exact Sim.nope
     | none=>
       simp only[Option.map_some,zL5,Option.map_none];rw[e];have:=Sim.evalArgs hS xs (as:=as++[a]) (br:=br++b) (io:=some (as.length,i)) h (by intro q hq; cases hq; exact hi i rfl);simpa only[zL5,Option.map_some,List.length_map]using this
theorem Sim.callS {n:Nat} {xs:List X} {W:SWr} {g:FuncId} {as:List Arg} {dom:List Nat} {nv:Bool} {k:Res->List D->Wr}
 (h:∀out,zGw cs n (xs.map (X.den ρ))=some out->∃r o,VX P g as (fun r' o'=>r'=r/\o'=o)/\(nv=true->r.noview=true)/\(k r o).map (·.1)=dom/\k r o=z3V (ρ++[out]) W) :
 Sim P cs ρ S (callS n xs W) (.call g as dom nv k):=by
 intro r hr R0 K hg
 cases hr
 obtain⟨out,ho,hK⟩:=hg.2
 obtain⟨r,o,h1,h2,h3,h4⟩:=h out ho
 exact⟨r,o,h1,h2,h3,by rw[h4]; exact hK R0 (fun s hs=>.inl hs)⟩
theorem zRt (ρ:List D) (out:D):(X.v ρ.length).den (ρ++[out])=out:=by simp[X.den]
theorem Ent.sv_conc {e:Ent} {x:X} {ρ:List D}:(e.sv x).conc ρ=(if e.one then Res.one e.res (x.den ρ)else Res.many e.res (x.den ρ)).av:=by
 unfold Ent.sv
 by_cases h:e.one=true <;> simp[h,SV.conc]
theorem Ent.noview {e:Ent} {out:D} (h:e.res.noview=true):(e.mkRes out).noview=true:=by
 unfold Ent.mkRes
 by_cases h1:e.one=true <;> simp[h1,h]
theorem zKs (ρ:List D) (l:List X) (j:Nat):((l.getD j .u).den ρ)=(l.map (X.den ρ)).getD j .unit:=by
 simp only[List.getD_eq_getElem?_getD,List.getElem?_map]
 cases l[j]? <;> rfl
theorem Sim.callA (hcs:∀e∈cs,e.Ok P) {fz:Bool} {s:Nat} {g:FuncId} {v:Ver} {as:List SArg} {br:List Nat} {io:Option (Nat×SIo)} (hio:∀q,io=some q->q.2.lt ρ.length=true) :
 Sim P cs ρ S (zLl fz cs ρ.length s g v as br io) (callA s g v (as.map (SArg.conc ρ)) br (zL5 ρ io)):=by
 unfold zLl Own.callA
 cases hf:zAn fz g (as.map fun a=>(a.m,a.t)) cs 0 with
 | none=>exact Sim.nope
 | some q=>
   obtain⟨n,e⟩:=q;obtain⟨_,he,hg,hty⟩:=z9D hf;rw[Nat.sub_zero]at he;have hok:=hcs e (List.mem_of_getElem? he);have hval:∀out,zGw cs n ((as.map (·.x)).map (X.den ρ))=some out->VX P g (as.map (SArg.conc ρ)) (fun r' o'=>r'=e.mkRes out/\o'=z5M e.as (if z6q e.as then out.snd else .unit)):=by
    intro out ho;unfold zGw at ho;rw[he]at ho;have h1:=hok.valid _ out (by rw[hty]; simp) ho;rw[hty]at h1;simp only[List.map_map]at h1;have e2:z2A (as.map fun a=>(a.m,a.t)) (as.map (X.den ρ ∘ fun a=>a.x))=as.map (SArg.conc ρ):=zB0 as;rw[e2,hg]at h1;refine⟨by rw[<- hg]; exact hok.callable,?_⟩;rw[hty]; exact h1
   refine Sim.guard fun hnv _=>?_;have hnv':∀out,(!br.isEmpty)=true->(e.mkRes out).noview=true:=by
    intro out hbr;simp only[Bool.or_eq_true]at hnv;rcases hnv with h | h
    ·rw[h]at hbr; cases hbr
    ·exact Ent.noview h
   cases io with
   | none=>
     refine Sim.guard fun hio' _=>?_;simp only[Bool.not_eq_true']at hio';refine Sim.callS fun out ho=>⟨_,_,hval out ho,hnv' out,rfl,?_⟩;have h1:(⟨e.sv (.v ρ.length),v.kill⟩:SC).conc (ρ++[out])=⟨(e.mkRes out).av,v.kill⟩:=by
      rw[z8E,Ent.sv_conc,zRt];simp only[Ent.mkRes,hio',Bool.false_eq_true,if_false]
     rw[z4T,h1]
   | some ji=>
     obtain⟨j,i⟩:=ji;have hlt:=hio _ rfl;simp only[SIo.lt,Bool.and_eq_true]at hlt;refine Sim.guard fun hio' _=>?_;have hj:((as.map (SArg.conc ρ)).getD j default).m=.iop↔zNI as j=true:=by
      simp only[zNI,List.getD_eq_getElem?_getD,List.getElem?_map]
      cases as[j]? with
      | none=>simp[default,instInhabitedArg.default,instInhabitedMode.default]
      | some a=>simp[SArg.conc]
     refine Sim.needB (fun hb=>?_) fun _=>?_
     ·simp only[Bool.and_eq_true,Bool.not_eq_true',Bool.or_eq_true]at hb;refine⟨fun hm=>?_,z3a hb.2.1,?_⟩
      ·have:=z50.2 hm;have h1:=hb.1;change inN br (SIo.conc ρ i).r=false at h1;rw[this]at h1; cases h1
      ·rcases hb.2.2 with h | h
       ·left; simpa using h
       ·right;simp only[zSy]at h;simp only[List.getD_eq_getElem?_getD,List.getElem?_map]
        cases ha:as[j]? with
        | none=>rw[ha]at h; cases h
        | some a=>rw[ha]at h; simpa [SArg.conc]using h
     ·refine Sim.callS fun out ho=>⟨_,_,hval out ho,hnv' out,rfl,?_⟩;have hout:((zLR e.as (mkTl (.v ρ.length))).getD j .u).den (ρ++[out])=(z5M e.as out.snd).getD j .unit:=by
       rw[zKs,zLS,zF7,zRt]
      simp only[hio',if_true];have h1:(⟨e.sv (z6I (.v ρ.length) 0),v.kill⟩:SC).conc (ρ++[out])=⟨(e.mkRes out).av,v.kill⟩:=by
       rw[z8E,Ent.sv_conc,z39,zRt];simp only[Ent.mkRes,hio',if_true];rfl
      have hic:i.c.conc (ρ++[out])=i.c.conc ρ:=SC.conc_append hlt.2.1;have hix:i.x.den (ρ++[out])=i.x.den ρ:=X.den_append _ hlt.2.2;have hip:z0Z.conc (ρ++[out]) i.p=z0Z.conc ρ i.p:=z0Z.conc_append _ hlt.1;unfold z3V;simp only[List.map_cons,List.map_nil,h1];congr 2;by_cases hm:zNI as j=true
      ·rw[if_pos (hj.2 hm),if_pos hm,SC.setRoot_conc,hout,hic]; rfl
      ·rw[if_neg (fun h=>hm (hj.1 h)),if_neg hm,SC.setRoot_conc,z7s,zH3,hout,hic,z28,hix,hip];simp only[SIo.conc,z1d];rfl
theorem zPM (hcs:∀e∈cs,e.Ok P) {fz:Bool} {g:FuncId} {as:List SArg} {n:Nat} {e:Ent} (hf:zAn fz g (as.map fun a=>(a.m,a.t)) cs 0=some (n,e)) :
 ∀out,zGw cs n ((as.map (·.x)).map (X.den ρ))=some out->VX P g (as.map (SArg.conc ρ)) (fun r' o'=>r'=e.mkRes out/\o'=z5M e.as (if z6q e.as then out.snd else .unit)):=by
 intro out ho
 obtain⟨_,he,hg,hty⟩:=z9D hf
 rw[Nat.sub_zero]at he
 have hok:=hcs e (List.mem_of_getElem? he)
 unfold zGw at ho
 rw[he]at ho
 have h1:=hok.valid _ out (by rw[hty]; simp) ho
 rw[hty]at h1
 simp only[List.map_map]at h1
 have e2:z2A (as.map fun a=>(a.m,a.t)) (as.map (X.den ρ ∘ fun a=>a.x))=as.map (SArg.conc ρ):=zB0 as
 rw[e2,hg]at h1
 refine⟨by rw[<- hg]; exact hok.callable,?_⟩
 rw[hty]; exact h1
theorem zR2 {ws:SWr} {out:D} (h:(ws.all fun x=>x.2.av.lt ρ.length)=true):z3V (ρ++[out]) ws=z3V ρ ws:=by
 unfold z3V
 refine List.map_congr_left fun x hx=>?_
 rw[List.all_eq_true]at h
 rw[SC.conc_append (h x hx)]
theorem Sim.callO (hcs:∀e∈cs,e.Ok P) (hS:ltL ρ.length S=true) {dst:Option Nat} {g:FuncId} {ty:TypeId} {x:Operand} {xs:List (Mode×TypeId×Operand)} :
 Sim P cs ρ S (zQQ Γ S cs ρ.length dst g ty x xs) (zGR Γ dst g ty x xs):=by
 unfold zQQ zGR
 cases dst with
 | none=>exact Sim.nope
 | some s=>
   refine Sim.ask (Sim.needB (fun hb=>z1P hb) fun _=>?_);refine Sim.takeW (ws:=[]) fun t y ws=>?_;refine Sim.evalArgs hS xs (as:=[]) (br:=[]) (io:=none) (fun as br io hio=>?_) (by simp)
   cases io with
   | some _=>exact Sim.nope
   | none=>
     have hfst:(z3V ρ ws).map (·.1)=ws.map (·.1):=z87 ρ ws;refine Sim.needB (fun hb=>?_) fun _=>?_
     ·simp only[Bool.and_eq_true,Bool.not_eq_true',List.all_eq_true]at hb;rw[hfst];refine⟨fun hm=>?_,fun r hr hm=>?_⟩
      ·have:=z50.2 hm; rw[hb.1]at this; cases this
      ·have:=z50.2 hm; rw[hb.2 r hr]at this; cases this
     ·split
      case isFalse=>exact Sim.nope
      rename_i hlt;split
      ·exact Sim.nope
      rename_i n e hf;refine Sim.guard fun hnv _=>?_;simp only[Bool.and_eq_true,Bool.or_eq_true,Bool.not_eq_true']at hnv;refine Sim.callS fun out ho=>⟨_,_,zPM hcs hf out ho,fun hbr=>?_,?_,?_⟩
      ·rcases hnv.1 with h | h
       ·rw[h]at hbr; cases hbr
       ·exact Ent.noview h
      ·simp[hfst]
      ·have h1:(⟨e.sv (.v ρ.length),(sget S s).v.kill⟩:SC).conc (ρ++[out])=⟨(e.mkRes out).av,(sget S s).v.kill⟩:=by
        rw[z8E,Ent.sv_conc,zRt];simp only[Ent.mkRes,hnv.2,Bool.false_eq_true,if_false]
       rw[z0y,zR2 hlt,z4T,h1];rfl
theorem Sim.call (hcs:∀e∈cs,e.Ok P) (hS:ltL ρ.length S=true) {dst:Option Nat} {g:FuncId} {xs:List (Mode×TypeId×Operand)} :
 Sim P cs ρ S (zTR Γ S cs ρ.length dst g xs) (zLL Γ dst g xs):=by
 have base:∀xs:List (Mode×TypeId×Operand),Sim P cs ρ S (match dst with
  | none=>none
  | some s=>askS S s fun cd=>z0r (z9N Γ s) [] (z6l Γ S xs [] [] none fun as br io=>zLl (inN Γ.fr s) cs ρ.length s g cd.v as br io))
  (match dst with
  | none=>.fail
  | some s=>.ask s fun cd=>.need (s<Γ.n/\s∉Γ.fx) (Own.evalArgs Γ xs [] [] none fun as br io=>Own.callA s g cd.v as br io)):=by
  intro xs
  cases dst with
  | none=>exact Sim.nope
  | some s=>
    refine Sim.ask (Sim.needB (fun hb=>z1P hb) fun _=>?_);exact Sim.evalArgs hS xs (as:=[]) (br:=[]) (io:=none) (fun as br io hio=>Sim.callA hcs hio) (by simp)
 match xs with
 | []=>exact base []
 | (.own,ty,x)::xs=>exact Sim.callO hcs hS
 | (.vw,ty,x)::xs=>exact base _
 | (.io,ty,x)::xs=>exact base _
 | (.iop,ty,x)::xs=>exact base _
theorem zCJ:∀(T':T) (x:X),(zCI T' x).map (SArg.conc ρ)=z96 T' (x.den ρ)
 | .pair t T',x=>by
   simp only[zCI,List.map_cons,z96,zCJ T',zF7];congr 1;simp[SArg.conc,z39]
 | .unit,_ | .int _,_ | .bool,_ | .str,_ | .lst _ _,_ | .ptr _,_ | .fn _ _,_ | .err,_ | .gone,_=>rfl
theorem Sim.callV (hcs:∀e∈cs,e.Ok P) (hS:ltL ρ.length S=true) {dst:Option Nat} {q:Nat} {xs:List (TypeId×Operand)} :
 Sim P cs ρ S (zQR Γ S cs ρ.length dst q xs) (zGS Γ dst q xs):=by
 unfold zQR zGS
 cases dst with
 | none=>exact Sim.nope
 | some s=>
   refine Sim.ask (Sim.needB (fun hb=>z1P hb) fun _=>?_);refine Sim.evalArgs hS _ (as:=[]) (br:=[]) (io:=none) (fun as br io hio=>?_) (by simp)
   cases io with
   | some _=>exact Sim.nope
   | none=>
     refine Sim.ask ?_;generalize sget S q=c;obtain⟨a,v⟩:=c
     cases a with
     | val ty x=>
       cases ty with
       | fn f T'=>
         refine Sim.needB (fun hb=>hb) fun _=>?_;have:=Sim.callA (P:=P) (S:=S) (ρ:=ρ) hcs (fz:=inN Γ.fr s) (s:=s) (g:=f) (v:=(sget S s).v) (as:=as++zCI T' x) (br:=br) (io:=none) (by simp);rw[List.map_append,zCJ]at this;exact this
       | _=>exact Sim.nope
     | _=>exact Sim.nope
theorem Sim.capsOf:∀(xs:List Operand) {k:List SCap->OR} {k':List Cap->A},(∀l,Sim P cs ρ S (k l) (k' (l.map (SCap.conc ρ))))->Sim P cs ρ S (zH0 S xs k) (capsOf xs k')
 | [],k,k',h=>h []
 | x::xs,k,k',h=>by
   unfold zH0 Own.capsOf;refine Sim.opd fun a=>?_
   cases a with
   | val t d=>
     refine Sim.needB (fun hb=>by simpa using hb) fun _=>Sim.capsOf xs fun l=>h (.val t d::l)
   | ptr r v p=>exact Sim.capsOf xs fun l=>h (.ptr r v p::l)
   | _=>exact Sim.nope
theorem Sim.makeFunc {dst:Option Nat} {f:FuncId} {caps:List Operand}:Sim P cs ρ S (zLh Γ S dst f caps) (zDD Γ dst f caps):=
 Sim.capsOf caps fun l=>Sim.out' rfl
def zTg:List Mode->List TypeId->List Operand->List (Mode×TypeId×Operand)
 | m::ms,t::ts,x::xs=>(m,t,x)::zTg ms ts xs
 | _,_,_=>[]
def sopA (Γ:Env) (cs:List Ent) (S:List SC) (f:List (X×Bool)) (d:Nat) (o:Oper):OR:=
 match o.op with
 | .move x=>zSm Γ S o.dst x
 | .assign x=>zN1 Γ S o.dst o.type x
 | .pick c a b=>zSn Γ S f o.dst c a b
 | .alloc t=>zSA Γ S o.dst t
 | .box t x=>sBox Γ S o.dst t x
 | .build t ps=>zQP Γ S o.dst t ps.toList
 | .buildSlice t n ps=>zBK Γ S o.dst t n ps.toList
 | .load t x=>zQX Γ S o.dst t x
 | .store t x y=>match o.dst with
   | none=>zN2 Γ S t x y
   | some _=>none
 | .nilCheck x=>sNil Γ S o.dst x
 | .binOp op t x y _=>if (Γ.ty t).agg then sEqS Γ S o.dst op t x y else sBin Γ S o.dst op t x y
 | .unOp op _ x=>sUn Γ S o.dst op x
 | .convert s t x=>if (Γ.ty t).lsts then zQT Γ S o.dst s t x else zSl Γ S o.dst s t x
 | .makeSlice t l c=>zDW Γ S o.dst t l c
 | .fieldAddr t x j=>zDU Γ S o.dst t x j
 | .field t x j=>zQU Γ S o.dst t x j
 | .indexAddr t x i=>zDV Γ S o.dst t x i
 | .index t x i=>zQV Γ S o.dst t x i
 | .slice t x lo hi mx=>zQY Γ S o.dst t x lo hi mx
 | .extract x j=>zJy Γ S o.dst x j
 | .makeFunc fn first caps=>match fn with
   | .func f=>z0r (Nat.beq first.size 0) [] (zLh Γ S o.dst f caps.toList)
   | _=>none
 | .call c=>match c.callee with
   | .builtin .len=>match c.args.toList,c.argTypes.toList with
     | [x],t::_=>sLen Γ S o.dst t x
     | _,_=>none
   | .builtin .append=>match c.args.toList,c.argTypes.toList with
     | [x,y],[t,u]=>zN0 Γ S o.dst t u x y
     | _,_=>none
   | .builtin .min=>zJz Γ S false o.dst c.args.toList
   | .builtin .max=>zJz Γ S true o.dst c.args.toList
   | .builtin .clear=>match c.args.toList,c.argTypes.toList with
     | [x],[t]=>zQS Γ S o.dst t x
     | _,_=>none
   | .value (.tmp q)=>z0r (Nat.beq c.argTypes.size c.args.size) [] (zQR Γ S cs d o.dst q (c.argTypes.toList.zip c.args.toList))
   | .value (.func g)=>z0r (Nat.beq (Γ.sig g).length c.args.size&&Nat.beq c.argTypes.size c.args.size) [] (zTR Γ S cs d o.dst g (zip3 (Γ.sig g) c.argTypes.toList c.args.toList))
   | _=>none
 | _=>none
theorem Sim.opA (hcs:∀e∈cs,e.Ok P) (hS:ltL ρ.length S=true) {f:List (X×Bool)} (hf:zDy ρ f) {o:Oper}:Sim P cs ρ S (sopA Γ cs S f ρ.length o) (opA Γ o):=by
 obtain⟨dst,op,ty,pos,aft,grd⟩:=o
 unfold sopA Own.opA
 cases op with
 | move x=>exact Sim.move
 | assign x=>exact Sim.assign
 | pick c x y=>exact Sim.pick hf
 | alloc t=>exact Sim.alloc
 | box t x=>exact Sim.box
 | build t ps=>exact Sim.build
 | buildSlice t n ps=>exact Sim.buildSlice
 | load t x=>exact Sim.loadD
 | store t x y=>
   cases dst with
   | none=>exact Sim.storeC
   | some _=>exact Sim.nope
 | nilCheck x=>exact Sim.nilc
 | binOp op t x y u=>
   refine Sim.ite Iff.rfl (fun _=>Sim.eqS) fun _=>Sim.bin
 | unOp op t x=>exact Sim.un
 | convert s t x=>exact Sim.ite Iff.rfl (fun _=>Sim.convB) fun _=>Sim.conv
 | makeSlice t l c=>exact Sim.makeSlice
 | fieldAddr t x j=>exact Sim.fieldAddr
 | field t x j=>exact Sim.field
 | indexAddr t x i=>exact Sim.indexAddr
 | index t x i=>exact Sim.index
 | slice t x lo hi mx=>exact Sim.slice
 | extract x j=>exact Sim.extract
 | makeFunc fn first caps=>
   cases fn with
   | func f=>exact Sim.needB (fun hb=>Nat.eq_of_beq_eq_true hb) fun _=>Sim.makeFunc
   | _=>exact Sim.nope
 | call c=>
   obtain⟨callee,args,ats⟩:=c;dsimp only
   cases callee with
   | builtin b=>
     cases b <;> first | exact Sim.nope | skip
     ·dsimp only;split
      ·rename_i h1 h2;simp only[h1,h2];exact Sim.append
      ·exact Sim.nope
     ·dsimp only;split
      ·rename_i h1 h2;simp only[h1,h2];exact Sim.clear
      ·exact Sim.nope
     ·dsimp only;split
      ·rename_i h1 h2;simp only[h1,h2];exact Sim.len
      ·exact Sim.nope
     ·exact Sim.minMax
     ·exact Sim.minMax
   | value v=>
     cases v with
     | func g=>
       refine Sim.needB (fun hb=>?_) fun _=>Sim.call hcs hS;simp only[Bool.and_eq_true]at hb;exact⟨Nat.eq_of_beq_eq_true hb.1,Nat.eq_of_beq_eq_true hb.2⟩
     | tmp q=>exact Sim.needB (fun hb=>Nat.eq_of_beq_eq_true hb) fun _=>Sim.callV hcs hS
     | _=>exact Sim.nope
   | invoke _ _=>exact Sim.nope
 | _=>exact Sim.nope
end
end Go.Own
