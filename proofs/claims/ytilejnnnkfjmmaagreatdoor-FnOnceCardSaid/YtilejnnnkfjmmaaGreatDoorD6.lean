/- A layer over the walk: what lies in memory as plain data, each operation by what it does to data; part 24. -/
import Derived.Test.YtilejnnnkfjmmaaGreatDoorD3
set_option linter.unusedSectionVars false
set_option linter.unusedVariables false
set_option linter.unusedSimpArgs false
namespace Go.Own
variable [Glb]
noncomputable section
open Go
inductive PE where
 | out (n:Nat) (xs:List X)
 | assert (x:X) (k:PE)
 | ite (x:X) (a b:PE)
 | call (i:Nat) (xs:List X) (k:PE)
 | bind (p ks:PE)
 | loop (init:List X) (body ks:PE)
 | alt (a b:PE)
 | take (m:Nat) (k:PE)
 | any (x:X) (p q:PE)
 | bot
 deriving Inhabited
abbrev Outc:=Option (Nat×List D)
def zAy (f:List D->Outc):Nat->List D->Outc
 | 0,_=>none
 | n+1,l=>match f l with
   | none=>none
   | some (0,l')=>zAy f n l'
   | some (t+1,l')=>some (t,l')
open Classical in
def z0d (f:List D->Outc) (l:List D):Outc:=if h:∃n r,zAy f n l=some r then some h.choose_spec.choose else none
theorem zIH {f:List D->Outc}:∀{n:Nat} {l:List D} {r},zAy f n l=some r->zAy f (n+1) l=some r
 | 0,l,r,h=>by cases h
 | n+1,l,r,h=>by
   unfold zAy at h |-
   cases hf:f l with
   | none=>rw[hf]at h; cases h
   | some q=>
     obtain⟨t,l'⟩:=q;rw[hf]at h
     cases t with
     | zero=>exact zIH h
     | succ t=>exact h
theorem zIG {f:List D->Outc} {n m:Nat} {l:List D} {r} (h:zAy f n l=some r) (hm:n<=m):zAy f m l=some r:=by
 induction hm with
 | refl=>exact h
 | step _ ih=>exact zIH ih
theorem zJR {f:List D->Outc} {n:Nat} {l:List D} {r} (h:zAy f n l=some r):z0d f l=some r:=by
 have hex:∃n r,zAy f n l=some r:=⟨n,r,h⟩
 unfold z0d
 rw[dif_pos hex]
 have h2:=hex.choose_spec.choose_spec
 have h3:=zIG h (Nat.le_max_left n hex.choose)
 have h4:=zIG h2 (Nat.le_max_right n hex.choose)
 rw[h3]at h4
 exact h4.symm
theorem zCt {f:List D->Outc} {l:List D} {r} (h:z0d f l=some r):∃n,zAy f n l=some r:=by
 unfold z0d at h
 split at h
 ·rename_i hex;simp only[Option.some.injEq]at h;exact⟨_,by rw[<- h]; exact hex.choose_spec.choose_spec⟩
 ·cases h
theorem z1m {f:List D->Outc} {l l':List D} (h:f l=some (0,l')):z0d f l=z0d f l':=by
 cases hr:z0d f l' with
 | some r=>
   obtain⟨n,hn⟩:=zCt hr;exact zJR (n:=n+1) (by unfold zAy; rw[h]; exact hn)
 | none=>
   cases hr2:z0d f l with
   | none=>rfl
   | some r=>
     obtain⟨n,hn⟩:=zCt hr2
     cases n with
     | zero=>cases hn
     | succ n=>
       unfold zAy at hn; rw[h]at hn;rw[zJR hn]at hr; cases hr
theorem z1B {f:List D->Outc} {l l':List D} {t:Nat} (h:f l=some (t+1,l')):z0d f l=some (t,l'):=
 zJR (n:=1) (by unfold zAy; rw[h])
def zQ6 (l:List D):Nat->Nat->List D
 | _,0=>[]
 | k,m+1=>l.getD k .unit::zQ6 l (k+1) m
theorem zJV (l:List D):∀(m k:Nat),k+m=l.length->zQ6 l k m=l.drop k
 | 0,k,h=>by rw[zQ6,List.drop_eq_nil_of_le (by omega)]
 | m+1,k,h=>by
   rw[zQ6,zJV l m (k+1) (by omega),List.drop_eq_getElem_cons (show k<l.length by omega),List.getD_eq_getElem?_getD,List.getElem?_eq_getElem (show k<l.length by omega)];rfl
def sel2 (n:Nat) (a:Outc) (b:Nat->Outc):Outc:=match n with
 | 0=>a
 | n+1=>b n
open Classical in
def two (c:Bool) (p q:Outc):Outc:=if c then(if p=q then q else none)else q
theorem zRr {c:Bool} {p q:Outc} {o} (h:two c p q=some o):q=some o/\(c=true->p=some o):=by
 unfold two at h
 split at h
 ·rename_i hc;split at h
  ·rename_i hpq; exact⟨h,fun _=>hpq ▸ h⟩
  ·cases h
 ·rename_i hc; exact⟨h,fun h=>absurd h hc⟩
theorem zSD {c:Bool} {p q:Outc} (h:c=true->p=q):two c p q=q:=by
 unfold two
 split
 ·rename_i hc; rw[if_pos (h hc)]
 ·rfl
def den (cs:List Ent):PE->List D->Nat->List D->Outc
 | .out n xs,ρ,_,_=>some (n,xs.map (X.den ρ))
 | .assert x k,ρ,n,l=>if (x.den ρ).b=true then den cs k ρ n l else none
 | .ite x a b,ρ,n,l=>if (x.den ρ).b=true then den cs a ρ n l else den cs b ρ n l
 | .call i xs k,ρ,n,l=>(zGw cs i (xs.map (X.den ρ))).bind fun r=>den cs k (ρ++[r]) n l
 | .bind p ks,ρ,_,_=>(den cs p ρ 0 []).bind fun o=>den cs ks ρ o.1 o.2
 | .loop init body ks,ρ,_,_=>(z0d (fun l=>den cs body ρ 0 l) (init.map (X.den ρ))).bind fun o=>den cs ks ρ o.1 o.2
 | .alt a b,ρ,n,l=>sel2 n (den cs a ρ 0 l) fun n=>den cs b ρ n l
 | .take m k,ρ,n,l=>den cs k (ρ++zQ6 l 0 m) n []
 | .any x p q,ρ,n,l=>two (x.den ρ).l.isEmpty (den cs p ρ n l) (den cs q ρ n l)
 | .bot,_,_,_=>none
abbrev Fs:=List (X×Bool)
def ltF (d:Nat) (f:Fs):Bool:=f.all fun x=>x.1.lt d
structure Wf (ρ:List D) (S:List SC) (f:Fs) (d:Nat):Prop where
 len:ρ.length=d
 lt:ltL d S=true
 facts:zDy ρ f
 flt:ltF d f=true
def zOz (f:Fs):List X->PE->PE
 | [],k=>k
 | a::as,k=>match zG4 f a with
   | some true=>zOz f as k
   | _=>.assert a (zOz ((a,true)::f) as k)
def zKn:List X->Fs->Fs
 | [],f=>f
 | a::as,f=>zKn as ((a,true)::f)
theorem zCN {cs:List Ent} {ρ:List D}:∀{as:List X} {f:Fs} {k:PE} {n:Nat} {l:List D} {o},zDy ρ f->den cs (zOz f as k) ρ n l=some o->(∀a∈as,(a.den ρ).b=true)/\den cs k ρ n l=some o
 | [],f,k,n,l,o,_,h=>⟨by simp,h⟩
 | a::as,f,k,n,l,o,hf,h=>by
   unfold zOz at h;split at h
   ·rename_i hk;obtain⟨h1,h2⟩:=zCN hf h;refine⟨fun x hx=>?_,h2⟩;simp only[List.mem_cons]at hx;rcases hx with rfl | hx
    ·exact z9x hf hk
    ·exact h1 x hx
   ·simp only[den]at h;split at h
    ·rename_i hb;obtain⟨h1,h2⟩:=zCN (by
      intro x b hm;simp only[List.mem_cons,Prod.mk.injEq]at hm;rcases hm with ⟨rfl,rfl⟩ | hm
      ·exact hb
      ·exact hf x b hm) h
     refine⟨fun x hx=>?_,h2⟩;simp only[List.mem_cons]at hx;rcases hx with rfl | hx
     ·exact hb
     ·exact h1 x hx
    ·cases h
theorem zFV {ρ:List D}:∀{as:List X} {f:Fs},zDy ρ f->(∀a∈as,(a.den ρ).b=true)->zDy ρ (zKn as f)
 | [],_,hf,_=>hf
 | a::as,f,hf,ha=>zFV (as:=as) (by
    intro x b hm;simp only[List.mem_cons,Prod.mk.injEq]at hm;rcases hm with ⟨rfl,rfl⟩ | hm
    ·exact ha _ (by simp)
    ·exact hf x b hm) fun x hx=>ha x (by simp[hx])
def ltW (d:Nat) (w:SWr):Bool:=w.all fun x=>x.2.av.lt d
theorem zF6 {d:Nat}:∀{l:List SC} {s:Nat} {c:SC},ltL d l=true->c.av.lt d=true->ltL d (sset l s c)=true
 | [],0,c,_,h=>by simp[sset,ltL,h]
 | [],s+1,c,h0,h=>by
   have:=zF6 (l:=[]) (s:=s) (c:=c) (d:=d) rfl h;simp only[sset,ltL,List.all_cons,Bool.and_eq_true];exact⟨rfl,this⟩
 | x::l,0,c,h0,h=>by simp[sset,ltL]at h0 |-; exact⟨h,h0.2⟩
 | x::l,s+1,c,h0,h=>by
   simp[ltL]at h0;have:=zF6 (l:=l) (s:=s) (c:=c) (d:=d) (by simp[ltL]; exact h0.2) h;simp only[ltL]at this;simp[sset,ltL];exact⟨h0.1,by simpa using this⟩
theorem zCu {d:Nat}:∀{w:SWr} {l:List SC},ltL d l=true->ltW d w=true->ltL d (zCH l w)=true
 | [],_,h,_=>h
 | (s,c)::w,l,h,hw=>by
   simp only[ltW,List.all_cons,Bool.and_eq_true]at hw;exact zCu (w:=w) (zF6 h hw.1) hw.2
theorem X.lt_mono {d e:Nat} (h:d<=e):∀{x:X},x.lt d=true->x.lt e=true
 | .v n,hx=>by simp[X.lt]at hx |-; omega
 | .u,_ | .i _,_ | .b _,_ | .s _,_ | .nil,_ | .z _,_=>rfl
 | .un o x,hx=>X.lt_mono h (x:=x) hx
 | .bi o x y,hx=>by simp[X.lt]at hx |-; exact⟨X.lt_mono h hx.1,X.lt_mono h hx.2⟩
 | .tri o x y w,hx=>by simp[X.lt]at hx |-; exact⟨X.lt_mono h hx.1,X.lt_mono h hx.2.1,X.lt_mono h hx.2.2⟩
theorem z0Z.lt_mono {d e:Nat} (h:d<=e) {p:z0Z} (hp:z0Z.lt d p=true):z0Z.lt e p=true:=by
 simp only[z0Z.lt,List.all_eq_true]at hp |-
 intro a ha
 have:=hp a ha
 cases a with
 | f j=>rfl
 | i x=>exact X.lt_mono h this
theorem SV.lt_mono {d e:Nat} (h:d<=e) {a:SV} (ha:a.lt d=true):a.lt e=true:=by
 cases a <;> simp only[SV.lt,Bool.and_eq_true]at ha |-
 case val=>exact X.lt_mono h ha
 case tup=>exact X.lt_mono h ha
 case box=>exact X.lt_mono h ha
 case ref=>exact⟨z0Z.lt_mono h ha.1,X.lt_mono h ha.2⟩
 case win=>exact⟨z0Z.lt_mono h ha.1,X.lt_mono h ha.2.1,X.lt_mono h ha.2.2⟩
 case ptr=>exact z0Z.lt_mono h ha
 case bref=>exact⟨z0Z.lt_mono h ha.1,X.lt_mono h ha.2⟩
 case clo f l=>
  rw[List.all_eq_true]at ha |-;intro c hc;have:=ha c hc
  cases c with
  | val t x=>exact X.lt_mono h this
  | ptr r v p=>exact z0Z.lt_mono h this
theorem zRT {d e:Nat} (h:d<=e) {l:List SC} (hl:ltL d l=true):ltL e l=true:=by
 simp only[ltL,List.all_eq_true]at hl |-
 exact fun c hc=>SV.lt_mono h (hl c hc)
theorem zF5 {d e:Nat} (h:d<=e) {f:Fs} (hf:ltF d f=true):ltF e f=true:=by
 simp only[ltF,List.all_eq_true]at hf |-
 exact fun c hc=>X.lt_mono h (hf c hc)
theorem zDy.append {ρ l:List D} {f:Fs} (hf:zDy ρ f) (hl:ltF ρ.length f=true):zDy (ρ++l) f:=by
 intro x b hm
 simp only[ltF,List.all_eq_true]at hl
 rw[X.den_append l (hl _ hm)]
 exact hf x b hm
theorem z9y {d:Nat}:∀{as:List X} {f:Fs},ltF d f=true->(as.all (X.lt d))=true->ltF d (zKn as f)=true
 | [],_,h,_=>h
 | a::as,f,h,ha=>by
   simp only[List.all_cons,Bool.and_eq_true]at ha;exact z9y (as:=as) (by simp only[ltF,List.all_cons,Bool.and_eq_true]; exact⟨ha.1,h⟩) ha.2
def zN8 (cs:List Ent) (f:Fs) (d:Nat) (S:List SC) (r:OpR) (k:List SC->Fs->Nat->Option PE):Option PE:=
 if r.as.all (X.lt d)then
  match r.call with
  | none=>if ltW d r.W then(k (zCH S r.W) (zKn r.as f) d).map (zOz f r.as)else none
  | some (i,xs)=>if ltW (d+1) r.W then(k (zCH S r.W) (zKn r.as f) (d+1)).map fun p=>zOz f r.as (.call i xs p)else none
 else none
def Kok (cs:List Ent) (o:Nat×List D) (ρ0:List D) (k:List SC->Fs->Nat->Option PE) (K:St->Prop):Prop:=
 ∀S f d pe l,k S f d=some pe->Wf (ρ0++l) S f d->den cs pe (ρ0++l) 0 []=some o->K (z1Q (ρ0++l) S)
section
variable {P : Program} {cs : List Ent} {Γ : Env}
theorem zN9 {ρ:List D} {S:List SC} {f:Fs} {d:Nat} {o} {r:OpR} {k:List SC->Fs->Nat->Option PE} {pe:PE} {a:A} (hsim:Sim P cs ρ S (some r) a) (h:zN8 cs f d S r k=some pe) (hw:Wf ρ S f d) (hd:den cs pe ρ 0 []=some o) :
 ∃w:SWr,∃l f' d' pe',k (zCH S w) f' d'=some pe'/\Wf (ρ++l) (zCH S w) f' d'/\den cs pe' (ρ++l) 0 []=some o/\z1Q (ρ++l) (zCH S w)=(z1Q ρ S).apply (z3V (ρ++l) w)/\w=r.W /\
  ∀R0 K,(∀R',(∀s∈R',s∈R0\/s∈r.R)->K R' (z3V (ρ++l) w))->a.wpD (VX P) R0 (z1Q ρ S) K:=by
 unfold zN8 at h
 split at h
 case isFalse=>cases h
 rename_i has
 cases hc:r.call with
 | none=>
   rw[hc]at h;simp only at h;split at h
   case isFalse=>cases h
   rename_i hlw;simp only[Option.map_eq_some_iff]at h;obtain⟨pe',hk,rfl⟩:=h;obtain⟨h1,h2⟩:=zCN hw.facts hd;refine⟨r.W,[],_,_,pe',hk,?_,by simpa using h2,?_,rfl,fun R0 K hK=>?_⟩
   ·rw[List.append_nil];exact⟨hw.len,zCu hw.lt hlw,zFV hw.facts h1,z9y hw.flt has⟩
   ·rw[List.append_nil,z8U]
   ·refine hsim r rfl R0 K ⟨h1,?_⟩;rw[hc];intro R' hR';have:=hK R' hR'
    rwa [List.append_nil]at this
 | some q=>
   obtain⟨i,xs⟩:=q;rw[hc]at h;simp only at h;split at h
   case isFalse=>cases h
   rename_i hlw;simp only[Option.map_eq_some_iff]at h;obtain⟨pe',hk,rfl⟩:=h;obtain⟨h1,h2⟩:=zCN hw.facts hd;simp only[den,Option.bind_eq_some_iff]at h2;obtain⟨out,ho,h3⟩:=h2;have hl:=hw.len;refine⟨r.W,[out],_,_,pe',hk,?_,h3,?_,rfl,fun R0 K hK=>?_⟩
   ·refine⟨by simp[hl],zCu (zRT (by omega) hw.lt) hlw,?_,zF5 (by omega) (z9y hw.flt has)⟩;exact zDy.append (zFV hw.facts h1) (by rw[hl]; exact z9y hw.flt has)
   ·rw[<- z8U,zKR (by rw[hl]; exact hw.lt)]
   ·refine hsim r rfl R0 K ⟨h1,?_⟩;rw[hc];exact⟨out,ho,hK⟩
def zN6 (c c':SC):Bool:=match c.av,c'.av with
 | .val (.lst true e) _,.val (.lst true e') _=>decide (e=e')&&(decide (c.v.id=c'.v.id)&&decide (c.v.v0=c'.v.v0))
 | .box t _,.box t' _=>decide (t.shape=t'.shape)&&decide (c.v.id=c'.v.id)
 | _,_=>false
theorem zLp {ρ ρ':List D} {c c':SC} (h:zN6 c c'=true):zBa (c.conc ρ) (c'.conc ρ')=true:=by
 obtain⟨a,v⟩:=c
 obtain⟨a',v'⟩:=c'
 unfold zN6 at h
 split at h
 ·rename_i h1 h2;simp only at h1 h2 h;subst h1 h2;exact h
 ·rename_i h1 h2;simp only at h1 h2 h;subst h1 h2;exact h
 ·cases h
def sgX (o:Oper) (S:List SC) (w:SWr):List Nat:=if (exOf o).isSome then []else(w.map (·.1)).filter fun s=>zN6 (sget S s) (sget (zCH S w) s)
def z7Y (Γ:Env) (cs:List Ent) (ops:Array Oper) (fin:List Tr->Bool):List Oper->Nat->List Tr->List SC->Fs->Nat->(List SC->Fs->Nat->Option PE)->Option PE
 | [],_,tr,S,f,d,k=>if fin tr then k S f d else none
 | o::os,i,tr,S,f,d,k=>
   let run (f:Fs):Option PE:=match sopA Γ cs S f d o with
    | none=>none
    | some r=>zN8 cs f d S r fun S' f d=>z7Y Γ cs ops fin os (i+1) (tr++[⟨i,r.R,r.W.map (·.1),exOf o,mvOf o,sgX o S r.W⟩]) S' f d k
   let hole (f:Fs):Option PE:=match sout Γ S o.dst (.tup .unit .u)with
    | none=>none
    | some r=>zN8 cs f d S r fun S' f d=>z7Y Γ cs ops fin os (i+1) (tr++[⟨i,r.R,r.W.map (·.1),exOf o,mvOf o,sgX o S r.W⟩]) S' f d k
   match o.guard with
   | none=>run f
   | some (j,want)=>match (ops[j]?).bind (·.dst)with
     | none=>none
     | some s=>
       let run' (f:Fs):Option PE:=match sopA Γ cs S f d o with
        | none=>none
        | some r=>zN8 cs f d S r fun S' f d=>z7Y Γ cs ops fin os (i+1) (tr++[⟨i,s::r.R,r.W.map (·.1),exOf o,mvOf o,sgX o S r.W⟩]) S' f d k
       let hole' (f:Fs):Option PE:=match sout Γ S o.dst (.tup .unit .u)with
        | none=>none
        | some r=>zN8 cs f d S r fun S' f d=>z7Y Γ cs ops fin os (i+1) (tr++[⟨i,s::r.R,r.W.map (·.1),exOf o,mvOf o,sgX o S r.W⟩]) S' f d k
       match (sget S s).av with
       | .val .bool x=>match zG4 f x with
         | some b=>if b==want then run' f else hole' f
         | none=>if x.lt d then
            (if want then run' ((x,true)::f)else hole' ((x,true)::f)).bind fun p=>
            (if want then hole' ((x,false)::f)else run' ((x,false)::f)).map fun q=>.ite x p q
           else none
       | .tup .unit _=>hole' f
       | _=>none
def Tr.Cm (a b:Tr):Prop:=a.x=b.x/\a.m=b.m/\∀s∈b.g,s∈a.g
theorem zSq {ρ ρ':List D} {S:List SC} {w:SWr} {o:Oper}:∀s∈sgX o S w,s∈(if (exOf o).isSome then []else gOf (z1Q ρ S) (z3V ρ' w)):=by
 intro s hs
 unfold sgX at hs
 split at hs
 ·cases hs
 ·rename_i hx;rw[if_neg hx];obtain⟨h1,h2⟩:=List.mem_filter.mp hs;refine List.mem_filter.mpr ⟨by rw[z87]; exact h1,?_⟩;rw[z3w (S':=z1Q ρ' S) (by rw[z87]; exact h1),z8U,z13,z13];exact zLp h2
def TrLe:List Tr->List Tr->Prop
 | [],[]=>True
 | a::l,b::m=>a.i=b.i/\(a.W=b.W/\a.Cm b)/\(∀s∈a.R,s∈b.R)/\TrLe l m
 | _,_=>False
theorem TrLe.snoc:∀{l m:List Tr} {a b:Tr},TrLe l m->a.i=b.i->a.W=b.W->a.Cm b->(∀s∈a.R,s∈b.R)->TrLe (l++[a]) (m++[b])
 | [],[],_,_,_,h1,h2,hx,h3=>⟨h1,⟨h2,hx⟩,h3,trivial⟩
 | [],_::_,_,_,h,_,_,_,_=>h.elim
 | _::_,[],_,_,h,_,_,_,_=>h.elim
 | x::l,y::m,a,b,h,h1,h2,hx,h3=>⟨h.1,h.2.1,h.2.2.1,TrLe.snoc h.2.2.2 h1 h2 hx h3⟩
theorem zML {a b b':List Nat} (h:dis a b=true) (hs:∀s∈b',s∈b):dis a b'=true:=by
 simp only[dis,List.all_eq_true,Bool.not_eq_true',List.contains_eq_mem,decide_eq_false_iff_not]at h |-
 exact fun s hs' hm=>h s hs' (hs s hm)
theorem zLE {a a' b b':Tr} (h:zGA a b=true) (ha:a'.W=a.W/\a'.Cm a) (hb:(b'.W=b.W/\b'.Cm b)/\∀s∈b'.R,s∈b.R):zGA a' b'=true:=by
 unfold zGA at h |-
 rw[ha.2.2.1,ha.1,hb.1.1]
 cases hm:a.m with
 | none=>rw[hm]at h; cases h
 | some p=>
   rw[hm]at h;simp only[Bool.and_eq_true,List.contains_eq_mem,decide_eq_true_eq]at h |-;exact⟨zML h.1 hb.2,h.2.1,h.2.2.1,hb.1.2.2.2 _ h.2.2.2⟩
theorem zQt {bef:List (List Nat)} {a a' b b':Tr} (h:zA6 bef a b=true) (ha:a'.i=a.i/\(a'.W=a.W/\a'.Cm a)/\∀s∈a'.R,s∈a.R) (hb:b'.i=b.i/\(b'.W=b.W/\b'.Cm b)/\∀s∈b'.R,s∈b.R):zA6 bef a' b'=true:=by
 unfold zA6 at h |-
 rw[ha.1,hb.1,ha.2.1.1,hb.2.1.1,ha.2.1.2.1,hb.2.1.2.1]
 simp only[Bool.or_eq_true,Bool.and_eq_true]at h |-
 rcases h with h | ⟨⟨h1,h2⟩,h3⟩ | h | h | h
 ·exact .inl h
 ·exact .inr (.inl ⟨⟨zML h1 hb.2.2,h2⟩,zML h3 ha.2.2⟩)
 ·exact .inr (.inr (.inl h))
 ·exact .inr (.inr (.inr (.inl (zLE h ha.2.1 hb.2))))
 ·exact .inr (.inr (.inr (.inr (zLE h hb.2.1 ha.2))))
theorem TrLe.mem:∀{l m:List Tr},TrLe l m->∀a∈l,∃b∈m,a.i=b.i/\(a.W=b.W/\a.Cm b)/\∀s∈a.R,s∈b.R
 | [],_,_,_,h=>by cases h
 | _::_,[],h,_,_=>h.elim
 | x::l,y::m,h,a,ha=>by
   simp only[List.mem_cons]at ha;rcases ha with rfl | ha
   ·exact⟨y,by simp,h.1,h.2.1,h.2.2.1⟩
   ·obtain⟨b,hb,h2⟩:=h.2.2.2.mem a ha;exact⟨b,by simp[hb],h2⟩
theorem zFI {bef:List (List Nat)}:∀{l m:List Tr},TrLe l m->z23 bef m=true->z23 bef l=true
 | [],_,_,_=>rfl
 | _::_,[],h,_=>h.elim
 | x::l,y::m,h,hm=>by
   simp only[z23,Bool.and_eq_true,List.all_eq_true]at hm |-;refine⟨fun b hb=>?_,zFI h.2.2.2 hm.2⟩;obtain⟨b',hb',h2⟩:=h.2.2.2.mem b hb;exact zQt (hm.1 b' hb') ⟨h.1,h.2.1,h.2.2.1⟩ h2
def opsF (X:Ctr) (Γ:Env) (ops:Array Oper) (Fin:List Tr->Prop):List Tr->Nat->List Oper->St->(St->Prop)->Prop
 | tr,_,[],S,K=>Fin tr/\K S
 | tr,i,o::os,S,K=>(opG Γ ops o).wpD X [] S fun R ws=>opsF X Γ ops Fin (tr++[⟨i,R,ws.map (·.1),exOf o,mvOf o,if (exOf o).isSome then []else gOf S ws⟩]) (i+1) os (S.apply ws) K
theorem zLO {X:Ctr} {ops:Array Oper} {bef:List (List Nat)} {K:St->Prop}:∀(os:List Oper) {tr:List Tr} {i:Nat} {S:St},opsF X Γ ops (fun tr=>z23 bef tr=true) tr i os S K->opsE X Γ ops bef tr i os S K
 | [],_,_,_,h=>h
 | _::os,_,_,_,h=>A.wpD_mono h fun _ _ h=>zLO os h
theorem zGX {X:Ctr} {ops:Array Oper} {Fin:List Tr->Prop} {K:St->Prop}:∀(os:List Oper) {tr:List Tr} {i:Nat} {S:St},opsF X Γ ops Fin tr i os S K->opsL X Γ ops os S K
 | [],_,_,_,h=>h.2
 | _::os,_,_,_,h=>A.wpD_wp h fun _ _ h=>zGX os h
theorem z77 (hcs:∀e∈cs,e.Ok P) {ops:Array Oper} {Fin:List Tr->Prop} {fin:List Tr->Bool} (hfin:∀tr tr',TrLe tr' tr->fin tr=true->Fin tr') {o:Nat×List D} {ρ0:List D} {K:St->Prop} :
 ∀(os:List Oper) {i:Nat} {tr tr':List Tr} {S:List SC} {f:Fs} {d:Nat} {k:List SC->Fs->Nat->Option PE} {pe:PE} {l:List D},z7Y Γ cs ops fin os i tr S f d k=some pe->Kok cs o ρ0 k K->Wf (ρ0++l) S f d->den cs pe (ρ0++l) 0 []=some o->TrLe tr' tr ->
  opsF (VX P) Γ ops Fin tr' i os (z1Q (ρ0++l) S) K
 | [],i,tr,tr',S,f,d,k,pe,l,h,hk,hw,hd,ht=>by
   simp only[z7Y]at h;split at h
   ·rename_i hf;exact⟨hfin _ _ ht hf,hk S f d pe l h hw hd⟩
   ·cases h
 | op::os,i,tr,tr',S,f,d,k,pe,l,h,hk,hw,hd,ht=>by
   have step:∀{R0:List Nat} {f:Fs} {pe:PE} {a:A} {m:OR},Sim P cs (ρ0++l) S m a->Wf (ρ0++l) S f d->den cs pe (ρ0++l) 0 []=some o ->
    (match m with
      | none=>none
      | some r=>zN8 cs f d S r fun S' f d=>z7Y Γ cs ops fin os (i+1) (tr++[⟨i,R0++r.R,r.W.map (·.1),exOf op,mvOf op,sgX op S r.W⟩]) S' f d k)=some pe ->
    a.wpD (VX P) R0 (z1Q (ρ0++l) S) fun R ws=>opsF (VX P) Γ ops Fin (tr'++[⟨i,R,ws.map (·.1),exOf op,mvOf op,if (exOf op).isSome then []else gOf (z1Q (ρ0++l) S) ws⟩]) (i+1) os ((z1Q (ρ0++l) S).apply ws) K:=by
    intro R0 f pe a m hs hw hd h
    cases m with
    | none=>cases h
    | some r=>
      simp only at h;obtain⟨w,l',f',d',pe',h1,h2,h3,h4,rfl,h5⟩:=zN9 hs h hw hd;refine h5 R0 _ fun R' hR'=>?_;rw[List.append_assoc]at h2 h3 h4;have:=z77 hcs hfin os h1 hk h2 h3 (tr':=tr'++[⟨i,R',r.W.map (·.1),exOf op,mvOf op,if (exOf op).isSome then []else gOf (z1Q (ρ0++l) S) (z3V (ρ0++(l++l')) r.W)⟩]) (ht.snoc rfl rfl ⟨rfl,rfl,zSq⟩ fun s hs=>by simpa using hR' s hs);rw[h4]at this;rw[List.append_assoc,z87];exact this
   have hlS:ltL (ρ0++l).length S=true:=by rw[hw.len]; exact hw.lt
   have hop:∀{f:Fs},zDy (ρ0++l) f->Sim P cs (ρ0++l) S (sopA Γ cs S f d op) (opA Γ op):=by
    intro f hf;have:=Sim.opA (Γ:=Γ) hcs hlS hf (o:=op)
    rwa [hw.len]at this
   have hhole:Sim P cs (ρ0++l) S (sout Γ S op.dst (.tup .unit .u)) (out Γ op.dst (.tup .unit .unit)):=Sim.out' rfl;show(opG Γ ops op).wpD (VX P) [] _ _;unfold z7Y at h;unfold opG
   cases hg:op.guard with
   | none=>
     rw[hg]at h;exact step (R0:=[]) (hop hw.facts) hw hd (by simpa using h)
   | some g=>
     obtain⟨j,want⟩:=g;rw[hg]at h;simp only at h |-
     cases hs:(ops[j]?).bind (·.dst)with
     | none=>rw[hs]at h; cases h
     | some s=>
       rw[hs]at h;simp only at h |-;simp only[A.wpD];rw[z13];generalize hsc:sget S s=c at h;obtain⟨av,ver⟩:=c;have hlc:=z9k hw.lt s;rw[hsc]at hlc;simp only[SC.conc]
       cases av with
       | val ty x=>
         cases ty with
         | bool=>
           simp only[SV.conc]at h |-
           cases hk':zG4 f x with
           | some b=>
             rw[hk']at h;simp only at h;have hb:=z9x hw.facts hk';rw[hb];by_cases hbw:b=want
             ·subst hbw;simp only[BEq.rfl,if_true]at h |-;exact step (R0:=[s]) (hop hw.facts) hw hd h
             ·rw[if_neg (by simpa using hbw)]at h;rw[if_neg hbw];exact step (R0:=[s]) hhole hw hd h
           | none=>
             rw[hk']at h;simp only at h;split at h
             case isFalse=>cases h
             rename_i hlx;simp only[Option.bind_eq_some_iff,Option.map_eq_some_iff]at h;obtain⟨p,hp,q,hq,rfl⟩:=h;simp only[den]at hd;have hw':∀b,(x.den (ρ0++l)).b=b->Wf (ρ0++l) S ((x,b)::f) d:=by
              intro b hb;refine⟨hw.len,hw.lt,?_,?_⟩
              ·intro y c hm;simp only[List.mem_cons,Prod.mk.injEq]at hm;rcases hm with ⟨rfl,rfl⟩ | hm
               ·exact hb
               ·exact hw.facts y c hm
              ·have:=hw.flt;simp only[ltF,List.all_cons,Bool.and_eq_true]at this |-;exact⟨hlx,this⟩
             cases hx:(x.den (ρ0++l)).b with
             | true=>
               rw[hx]at hd;simp only[if_true]at hd;have hw2:=hw' true hx
               cases want with
               | true=>
                 simp only[if_true]at hp |-;exact step (R0:=[s]) (hop hw2.facts) hw2 hd hp
               | false=>
                 simp only[Bool.false_eq_true,if_false]at hp;rw[if_neg (by simp)];exact step (R0:=[s]) hhole hw2 hd hp
             | false=>
               rw[hx]at hd;simp only[Bool.false_eq_true,if_false]at hd;have hw2:=hw' false hx
               cases want with
               | true=>
                 simp only[if_true]at hq;rw[if_neg (by simp)];exact step (R0:=[s]) hhole hw2 hd hq
               | false=>
                 simp only[Bool.false_eq_true,if_false]at hq;rw[if_pos rfl];exact step (R0:=[s]) (hop hw2.facts) hw2 hd hq
         | _=>cases h
       | tup ty x=>
         cases ty with
         | unit=>
           simp only[SV.conc]at h |-;exact step (R0:=[s]) hhole hw hd h
         | _=>cases h
       | _=>cases h
end
end
end Go.Own
namespace Go.Own
variable [Glb]
noncomputable section
open Go
def SCap.beq:SCap->SCap->Bool
 | .val t x,.val u y=>decide (t=u)&&x.beq y
 | .ptr r v p,.ptr r' v' p'=>Nat.beq r r'&&(decide (v=v')&&z0Z.beq p p')
 | _,_=>false
def zCP:List SCap->List SCap->Bool
 | [],[]=>true
 | a::l,b::m=>a.beq b&&zCP l m
 | _,_=>false
def SV.beq:SV->SV->Bool
 | .undef,.undef=>true
 | .nil,.nil=>true
 | .val t x,.val u y=>decide (t=u)&&x.beq y
 | .tup t x,.tup u y=>decide (t=u)&&x.beq y
 | .box t x,.box u y=>decide (t=u)&&x.beq y
 | .ref r v p t x,.ref r' v' p' t' x'=>Nat.beq r r'&&(decide (v=v')&&(z0Z.beq p p'&&(decide (t=t')&&x.beq x')))
 | .win r v p e lo n,.win r' v' p' e' lo' n'=>Nat.beq r r'&&(decide (v=v')&&(z0Z.beq p p'&&(decide (e=e')&&(lo.beq lo'&&n.beq n'))))
 | .ptr r v p,.ptr r' v' p'=>Nat.beq r r'&&(decide (v=v')&&z0Z.beq p p')
 | .clo f l,.clo g m=>decide (f=g)&&zCP l m
 | .bref t x r v p,.bref t' x' r' v' p'=>Nat.beq r r'&&(decide (v=v')&&(z0Z.beq p p'&&(decide (t=t')&&x.beq x')))
 | _,_=>false
def SC.beq (a b:SC):Bool:=decide (a.v=b.v)&&a.av.beq b.av
theorem SCap.eq_of_beq {a b:SCap} (h:a.beq b=true):a=b:=by
 cases a <;> cases b <;> simp[SCap.beq]at h
 ·rw[h.1,X.eq_of_beq h.2]
 ·rw[h.1,h.2.1,z0Z.eq_of_beq h.2.2]
theorem zI5:∀{l m:List SCap},zCP l m=true->l=m
 | [],[],_=>rfl
 | [],_::_,h=>by simp[zCP]at h
 | _::_,[],h=>by simp[zCP]at h
 | a::l,b::m,h=>by simp[zCP]at h; rw[SCap.eq_of_beq h.1,zI5 h.2]
theorem SV.eq_of_beq {a b:SV} (h:a.beq b=true):a=b:=by
 cases a <;> cases b <;> simp[SV.beq]at h
 ·rfl
 ·rfl
 ·rw[h.1,X.eq_of_beq h.2]
 ·rw[h.1,X.eq_of_beq h.2]
 ·rw[h.1,X.eq_of_beq h.2]
 ·rw[h.1,h.2.1,z0Z.eq_of_beq h.2.2.1,h.2.2.2.1,X.eq_of_beq h.2.2.2.2]
 ·rw[h.1,h.2.1,z0Z.eq_of_beq h.2.2.1,h.2.2.2.1,X.eq_of_beq h.2.2.2.2.1,X.eq_of_beq h.2.2.2.2.2]
 ·rw[h.1,h.2.1,z0Z.eq_of_beq h.2.2]
 ·rw[h.1,zI5 h.2]
 ·rw[h.1,h.2.1,z0Z.eq_of_beq h.2.2.1,h.2.2.2.1,X.eq_of_beq h.2.2.2.2]
theorem SC.eq_of_beq {a b:SC} (h:a.beq b=true):a=b:=by
 obtain⟨a,v⟩:=a; obtain⟨b,w⟩:=b
 simp[SC.beq]at h
 rw[h.1,SV.eq_of_beq h.2]
def SCap.roots:SCap->List Nat
 | .ptr r _ _=>[r]
 | _=>[]
def SV.roots:SV->List Nat
 | .ref r ..=>[r]
 | .win r ..=>[r]
 | .ptr r ..=>[r]
 | .bref _ _ r _ _=>[r]
 | .clo _ l=>l.flatMap SCap.roots
 | _=>[]
theorem SV.roots_conc (ρ:List D) (a:SV):(a.conc ρ).roots=a.roots:=by
 cases a <;> simp[SV.conc,SV.roots,List.flatMap_map]
 congr 1
 funext c
 cases c <;> rfl
structure Plan where
 keep:List Nat
 pass:List (Nat×Nat×T)
 lean:List Nat
inductive Hint where
 | join (es:List (Nat×Plan))
 | loop (h:Plan) (es:List (Nat×Plan))
 | frz (l:List Nat)
def zTA:List (Nat×Hint)->List Nat
 | []=>[]
 | (_,.frz l)::_=>l
 | _::hs=>zTA hs
def mkSV (k:Nat) (t:T) (x:X):SV:=if Nat.beq k 0 then .val t x else if Nat.beq k 1 then .tup t x else .box t x
def zS7:T->Bool
 | .lst true _=>true
 | _=>false
theorem zMs {t:T} (h:zS7 t=true):∃e,t=.lst true e:=by
 cases t with
 | lst o e=>cases o with
   | true=>exact⟨e,rfl⟩
   | false=>cases h
 | _=>cases h
def Fit (a:SV) (k:Nat) (t:T) (x:X):Prop:=a=mkSV k t x\/(a=.nil/\k=0/\(∃e,t=.lst true e)/\x=.nil)
def z6v:List (Nat×Nat×T)->List SC->Option (List X)
 | [],_=>some []
 | (s,k,t)::ps,S=>match (sget S s).av with
   | .val u x=>if Nat.beq k 0&&decide (u=t)then(z6v ps S).map (x :: ·)else none
   | .tup u x=>if Nat.beq k 1&&decide (u=t)then(z6v ps S).map (x :: ·)else none
   | .box u x=>if Nat.beq k 2&&decide (u=t)then(z6v ps S).map (x :: ·)else none
   | .nil=>if Nat.beq k 0&&zS7 t then(z6v ps S).map (X.nil :: ·)else none
   | _=>none
def zL9 (keep:List Nat) (S0 S:List SC):Bool:=keep.all fun s=>(sget S s).beq (sget S0 s)&&(sget S0 s).av.roots.all (inN keep)
def z82:List (Nat×Nat×T)->Nat->List SC->List SC
 | [],_,l=>l
 | (s,k,t)::ps,i,l=>z82 ps (i+1) (sset l s ⟨mkSV k t (.v i),⟨0,0,0⟩⟩)
def zDY:List Nat->List SC->List SC->List SC
 | [],_,l=>l
 | s::ks,S0,l=>zDY ks S0 (sset l s (sget S0 s))
def SV.reset:SV->SV
 | .ref r _ p t x=>.ref r ⟨0,0,0⟩ p t x
 | .bref t x r _ p=>.bref t x r ⟨0,0,0⟩ p
 | .win r _ p e lo n=>.win r ⟨0,0,0⟩ p e lo n
 | .ptr r _ p=>.ptr r ⟨0,0,0⟩ p
 | _=>.undef
def zH1:List Nat->List SC->List SC->List SC
 | [],_,l=>l
 | s::ks,S0,l=>zH1 ks S0 (sset l s ⟨(sget S0 s).av.reset,⟨0,0,0⟩⟩)
def z57 (p:Plan) (S0:List SC) (d:Nat):List SC:=zH1 p.lean S0 (zDY p.keep S0 (z82 p.pass d []))
def zOY (p:Plan) (S:List SC) (r:Nat) (l:Bool):Bool:=l&&(!inN p.keep r&&(!inN p.lean r&&((sget S r).root.isSome&&(sget (z82 p.pass 0 []) r).root.isSome)))
def zPq (p:Plan) (S:List SC):SV->SV->Bool
 | .ref r _ q t x,.ref r' v q' t' x'=>Nat.beq r' r&&(z0Z.beq q' q&&(decide (t'=t)&&(x'.beq x&&zOY p S r (z29 v (sget S r).v (z2W q)))))
 | .bref t x r _ q,.bref t' x' r' v q'=>Nat.beq r' r&&(z0Z.beq q' q&&(decide (t'=t)&&(x'.beq x&&zOY p S r (z29 v (sget S r).v (z2W q)))))
 | .win r _ q e lo n,.win r' v q' e' lo' n'=>Nat.beq r' r&&(z0Z.beq q' q&&(decide (e'=e)&&(lo'.beq lo&&(n'.beq n&&zOY p S r (z29 v (sget S r).v (z2W q))))))
 | .ptr r _ q,.ptr r' v q'=>Nat.beq r' r&&(z0Z.beq q' q&&zOY p S r (z64 v (sget S r).v (z2W q)))
 | _,_=>false
def zNn (p:Plan) (S0 S:List SC):Bool:=p.lean.all fun s=>!inN p.keep s&&zPq p S (sget S0 s).av (sget S s).av
theorem z6n:∀(l:List SC) (s s':Nat) (c:SC),sget (sset l s c) s'=if s'=s then c else sget l s'
 | [],0,0,c=>by simp[sset,sget]
 | [],0,s'+1,c=>by simp[sset,sget]
 | [],s+1,0,c=>by simp[sset,sget]
 | [],s+1,s'+1,c=>by simp[sset,sget,z6n [] s s' c]
 | x::xs,0,0,c=>by simp[sset,sget]
 | x::xs,0,s'+1,c=>by simp[sset,sget]
 | x::xs,s+1,0,c=>by simp[sset,sget]
 | x::xs,s+1,s'+1,c=>by simp[sset,sget,z6n xs s s' c]
theorem z6m:∀(ks:List Nat) (S0 l:List SC) (s:Nat),sget (zDY ks S0 l) s=if s∈ks then sget S0 s else sget l s
 | [],_,_,_=>by simp[zDY]
 | a::ks,S0,l,s=>by
   rw[zDY,z6m ks S0,z6n];by_cases h:s∈ks
   ·simp[h]
   ·by_cases h2:s=a
    ·subst h2; simp[h]
    ·simp[h,h2]
theorem z9l:∀(ks:List Nat) (S0 l:List SC) (s:Nat),sget (zH1 ks S0 l) s=if s∈ks then⟨(sget S0 s).av.reset,⟨0,0,0⟩⟩else sget l s
 | [],_,_,_=>by simp[zH1]
 | a::ks,S0,l,s=>by
   rw[zH1,z9l ks S0,z6n];by_cases h:s∈ks
   ·simp[h]
   ·by_cases h2:s=a
    ·subst h2; simp[h]
    ·simp[h,h2]
theorem zLn:∀(ps:List (Nat×Nat×T)) (i:Nat) (l:List SC) (r:Nat),(sget l r).v=⟨0,0,0⟩->(sget (z82 ps i l) r).v=⟨0,0,0⟩
 | [],_,_,_,h=>h
 | (s,k,t)::ps,i,l,r,h=>by
   refine zLn ps (i+1) _ r ?_;rw[z6n];by_cases hs:r=s
   ·rw[if_pos hs]
   ·rw[if_neg hs]; exact h
theorem SV.reset_lt {a:SV} {n:Nat} (h:a.lt n=true):a.reset.lt n=true:=by
 cases a <;> first | rfl | exact h
theorem zAf {r:Nat}:∀(ps:List (Nat×Nat×T)) (i j:Nat) (l l':List SC),((sget l r).root.isSome=true->(sget l' r).root.isSome=true)->(sget (z82 ps i l) r).root.isSome=true->(sget (z82 ps j l') r).root.isSome=true
 | [],_,_,_,_,h,h1=>h h1
 | (s,k,t)::ps,i,j,l,l',h,h1=>by
   refine zAf ps (i+1) (j+1) _ _ ?_ h1;rw[z6n,z6n];by_cases hs:r=s
   ·rw[if_pos hs,if_pos hs];unfold mkSV;intro _;split
    ·rfl
    ·split <;> rfl
   ·rw[if_neg hs,if_neg hs]; exact h
def zP2 (ρL ρc:List D) (S l:List SC) (s:Nat):Prop:=
 sget l s=SC.nul\/∃k t n x,(sget l s).av=mkSV k t (.v n)/\Fit (sget S s).av k t x/\(X.v n).den ρc=x.den ρL
theorem z9M (k:Nat) (t:T) (x:X) (ρ:List D):(mkSV k t x).conc ρ=if Nat.beq k 0 then .val t (x.den ρ)else if Nat.beq k 1 then .tup t (x.den ρ)else .box t (x.den ρ):=by
 unfold mkSV; split <;> (try split) <;> rfl
theorem zOe (k:Nat) (t:T) (x:X):(mkSV k t x).roots=[]:=by
 unfold mkSV; split <;> (try split) <;> rfl
theorem zDs {s k:Nat} {t:T} {ps:List (Nat×Nat×T)} {S:List SC} {xs:List X} (h:z6v ((s,k,t)::ps) S=some xs) :
 ∃x ys,xs=x::ys/\z6v ps S=some ys/\Fit (sget S s).av k t x:=by
 unfold z6v at h
 split at h
 ·rename_i u x hav;split at h
  ·rename_i hb;simp only[Bool.and_eq_true,decide_eq_true_eq]at hb;simp only[Option.map_eq_some_iff]at h;obtain⟨ys,h1,rfl⟩:=h;exact⟨x,ys,rfl,h1,.inl (by rw[hav,hb.2]; simp[mkSV,hb.1])⟩
  ·cases h
 ·rename_i u x hav;split at h
  ·rename_i hb;simp only[Bool.and_eq_true,decide_eq_true_eq]at hb;simp only[Option.map_eq_some_iff]at h;obtain⟨ys,h1,rfl⟩:=h;refine⟨x,ys,rfl,h1,.inl ?_⟩;have:=Nat.eq_of_beq_eq_true hb.1;subst this;rw[hav,hb.2]; rfl
  ·cases h
 ·rename_i u x hav;split at h
  ·rename_i hb;simp only[Bool.and_eq_true,decide_eq_true_eq]at hb;simp only[Option.map_eq_some_iff]at h;obtain⟨ys,h1,rfl⟩:=h;refine⟨x,ys,rfl,h1,.inl ?_⟩;have:=Nat.eq_of_beq_eq_true hb.1;subst this;rw[hav,hb.2]; rfl
  ·cases h
 ·rename_i hav;split at h
  ·rename_i hb;simp only[Bool.and_eq_true]at hb;simp only[Option.map_eq_some_iff]at h;obtain⟨ys,h1,rfl⟩:=h;exact⟨_,ys,rfl,h1,.inr ⟨hav,Nat.eq_of_beq_eq_true hb.1,zMs hb.2,rfl⟩⟩
  ·cases h
 ·cases h
theorem zB9:∀{ps:List (Nat×Nat×T)} {S:List SC} {xs:List X},z6v ps S=some xs->xs.length=ps.length
 | [],_,_,h=>by cases h; rfl
 | (s,k,t)::ps,S,xs,h=>by
   obtain⟨x,ys,rfl,h1,_⟩:=zDs h;simp[zB9 h1]
theorem zIX {ρL ρc:List D} {S:List SC}:∀{ps:List (Nat×Nat×T)} {i:Nat} {l:List SC} {xs:List X},z6v ps S=some xs->(∀j x,xs[j]? = some x->(X.v (i+j)).den ρc=x.den ρL)->(∀s,zP2 ρL ρc S l s) ->
 ∀s,zP2 ρL ρc S (z82 ps i l) s
 | [],i,l,xs,_,_,hl,s=>hl s
 | (a,k,t)::ps,i,l,xs,h,hx,hl,s=>by
   obtain⟨x,ys,rfl,h1,h2⟩:=zDs h;refine zIX (i:=i+1) h1 (fun j y hy=>?_) (fun s=>?_) s
   ·have:=hx (j+1) y (by simpa using hy)
    rwa [show i+1+j=i+(j+1) by omega]
   ·unfold zP2;rw[z6n];by_cases hs:s=a
    ·subst hs;rw[if_pos rfl];exact .inr ⟨k,t,i,x,rfl,h2,by simpa using hx 0 x (by simp)⟩
    ·rw[if_neg hs]; exact hl s
theorem zG3 {keep:List Nat} {S0 S:List SC} (h:zL9 keep S0 S=true) {s:Nat} (hs:s∈keep):sget S s=sget S0 s/\∀r∈(sget S0 s).av.roots,r∈keep:=by
 simp only[zL9,List.all_eq_true,Bool.and_eq_true]at h
 obtain⟨h1,h2⟩:=h s hs
 exact⟨SC.eq_of_beq h1,fun r hr=>z50.1 (h2 r hr)⟩
theorem zKS {ρ l:List D} {p:Plan} {S0 S:List SC} {xs:List X} {d:Nat} (hd:ρ.length=d) (hS0:ltL d S0=true) (hx:z6v p.pass S=some xs) (hk:zL9 p.keep S0 S=true) (hln:zNn p S0 S=true) :
 Weak (z1Q (ρ++l) S) (z1Q (ρ++xs.map (X.den (ρ++l))) (z57 p S0 d)):=by
 have hpass:=zIX (ρL:=ρ++l) (ρc:=ρ++xs.map (X.den (ρ++l))) (S:=S) (i:=d) (l:=[]) hx (by
  intro j x hj;have hlt:=(List.getElem?_eq_some_iff.1 hj).1;subst hd;simp only[X.den,List.getD_eq_getElem?_getD];rw[List.getElem?_append_right (by omega)];simp[hj]) (fun s=>.inl rfl)
 have base:∀s,s∉p.lean->sget (z57 p S0 d) s=sget (zDY p.keep S0 (z82 p.pass d [])) s:=fun s hs=>by
  unfold z57; rw[z9l,if_neg hs]
 have rootOf:∀r b,zOY p S r b=true->b=true/\(z1Q (ρ++xs.map (X.den (ρ++l))) (z57 p S0 d) r).root=(z1Q (ρ++l) S r).root/\(z1Q (ρ++xs.map (X.den (ρ++l))) (z57 p S0 d) r).av≠.undef/\(z1Q (ρ++xs.map (X.den (ρ++l))) (z57 p S0 d) r).v=⟨0,0,0⟩:=by
  intro r b h;unfold zOY at h;simp only[Bool.and_eq_true,Bool.not_eq_true',<- Bool.not_eq_true,z50]at h;obtain⟨h1,h2,h3,h4,h5⟩:=h;refine⟨h1,?_⟩;rw[z13,z13,base r h3,z6m,if_neg h2];have h6:=zAf p.pass 0 d [] [] id h5;rcases hpass r with h | ⟨k,t,n,x,g1,g2,g3⟩
  ·rw[h]at h6; cases h6
  ·rcases g2 with g2 | ⟨g2,_⟩
   ·have e:(SC.conc (ρ++xs.map (X.den (ρ++l))) (sget (z82 p.pass d []) r)).av=(SC.conc (ρ++l) (sget S r)).av:=by
     show(sget _ r).av.conc _=(sget S r).av.conc _;rw[g1,g2,z9M,z9M,g3]
    refine⟨?_,?_,zLn p.pass d [] r rfl⟩
    ·unfold Cl.root;rw[e]
    ·rw[e];intro hu;have:(SC.conc (ρ++l) (sget S r)).root=none:=by unfold Cl.root; rw[hu]
     rw[SC.root_conc]at this;rw[Option.map_eq_none_iff]at this;rw[this]at h4; cases h4
   ·have:(sget S r).root=none:=by unfold SC.root; rw[g2]
    rw[this]at h4; cases h4
 simp only[zNn,List.all_eq_true,Bool.and_eq_true,Bool.not_eq_true',<- Bool.not_eq_true,z50]at hln
 have apartK:∀s,s∈p.keep->s∉p.lean:=fun s h1 h2=>(hln s h2).1 h1
 have kept:∀s,s∈p.keep->s∉p.lean->z1Q (ρ++xs.map (X.den (ρ++l))) (z57 p S0 d) s=z1Q (ρ++l) S s:=by
  intro s hs hsl;rw[z13,z13,base s hsl];rw[z6m,if_pos hs,(zG3 hk hs).1];have hlt:=z9k hS0 s;rw[<- hd]at hlt;rw[SC.conc_append hlt,SC.conc_append hlt]
 intro s
 by_cases hsl:s∈p.lean
 ·refine .inr (.inr (.inr ?_));have h1:=(hln s hsl).2;have hlt:=z9k hS0 s;rw[<- hd]at hlt;have e1:(z1Q (ρ++xs.map (X.den (ρ++l))) (z57 p S0 d) s).av=((sget S0 s).av.reset).conc (ρ++l):=by
   rw[z13];unfold z57;rw[z9l,if_pos hsl];show SV.conc _ _=_;have:((sget S0 s).av.reset).lt ρ.length=true:=SV.reset_lt hlt;rw[SV.conc_append this,SV.conc_append this]
  have e2:(z1Q (ρ++l) S s).av=(sget S s).av.conc (ρ++l):=by rw[z13]; rfl
  rw[e1,e2];have hv:∀r,(z1Q (ρ++l) S r).v=(sget S r).v:=fun r=>by rw[z13]; rfl
  generalize (sget S0 s).av=a at h1;generalize (sget S s).av=b at h1
  cases a <;> cases b <;> simp only[zPq,Bool.and_eq_true,decide_eq_true_eq,Bool.false_eq_true]at h1
  case ref.ref=>
   obtain⟨k1,k2,k3,k4,k5⟩:=h1;have k1:=Nat.eq_of_beq_eq_true k1;obtain⟨m1,m2,m3,m4⟩:=rootOf _ _ k5;subst k1 k3;refine⟨_,⟨rfl,rfl,?_,rfl,?_,?_,?_⟩,m2,m3⟩
   ·rw[z0Z.eq_of_beq k2]
   ·rw[X.eq_of_beq k4]
   ·rw[m4]
   ·rw[hv,z0n,z0Z.eq_of_beq k2]; exact z0l m1
  case bref.bref=>
   obtain⟨k1,k2,k3,k4,k5⟩:=h1;have k1:=Nat.eq_of_beq_eq_true k1;obtain⟨m1,m2,m3,m4⟩:=rootOf _ _ k5;subst k1 k3;refine⟨_,⟨rfl,rfl,?_,rfl,?_,?_,?_⟩,m2,m3⟩
   ·rw[z0Z.eq_of_beq k2]
   ·rw[X.eq_of_beq k4]
   ·rw[m4]
   ·rw[hv,z0n,z0Z.eq_of_beq k2]; exact z0l m1
  case win.win=>
   obtain⟨k1,k2,k3,k4,k6,k5⟩:=h1;have k1:=Nat.eq_of_beq_eq_true k1;obtain⟨m1,m2,m3,m4⟩:=rootOf _ _ k5;subst k1 k3;refine⟨_,⟨rfl,rfl,?_,rfl,?_,?_,?_,?_⟩,m2,m3⟩
   ·rw[z0Z.eq_of_beq k2]
   ·rw[X.eq_of_beq k4]
   ·rw[X.eq_of_beq k6]
   ·rw[m4]
   ·rw[hv,z0n,z0Z.eq_of_beq k2]; exact z0l m1
  case ptr.ptr=>
   obtain⟨k1,k2,k5⟩:=h1;have k1:=Nat.eq_of_beq_eq_true k1;obtain⟨m1,m2,m3,m4⟩:=rootOf _ _ k5;subst k1;refine⟨_,⟨rfl,rfl,?_,?_,?_⟩,m2,m3⟩
   ·rw[z0Z.eq_of_beq k2]
   ·rw[m4]
   ·rw[hv,z0n,z0Z.eq_of_beq k2]; exact z3C m1
 by_cases hs:s∈p.keep
 ·have h2:=(zG3 hk hs).2;have:(z1Q (ρ++xs.map (X.den (ρ++l))) (z57 p S0 d) s).av.roots=(sget S0 s).av.roots:=by
   rw[z13,base s hsl];rw[z6m,if_pos hs];exact SV.roots_conc _ _
  refine .inr (.inl ⟨by rw[kept s hs hsl],fun r hr=>?_⟩);rw[this]at hr;exact kept r (h2 r hr) (apartK r (h2 r hr))
 ·have hg:sget (z57 p S0 d) s=sget (z82 p.pass d []) s:=by
   rw[base s hsl,z6m,if_neg hs]
  rw[z13,z13,hg];rcases hpass s with h | ⟨k,t,n,x,h1,h2,h3⟩
  ·rw[h]; exact .inl rfl
  ·right;rcases h2 with h2 | ⟨h2,rfl,⟨e,rfl⟩,rfl⟩
   ·left;constructor
    ·show(sget _ s).av.conc _=(sget S s).av.conc _;rw[h1,h2,z9M,z9M,h3]
    ·intro r hr;change r∈((sget _ s).av.conc _).roots at hr;rw[SV.roots_conc,h1,zOe]at hr
     cases hr
   ·right; left;refine⟨?_,e,?_⟩
    ·show(sget S s).av.conc _=_;rw[h2]; rfl
    ·show(sget _ s).av.conc _=_;rw[h1,z9M,h3]; rfl
theorem Weak.refl (S:St):Weak S S:=fun _=>.inr (.inl ⟨rfl,fun _ _=>rfl⟩)
def zPQ:Exit->Option Nat
 | .normal=>some 0
 | .ret=>some 1
 | .exit id=>some (id+2)
 | _=>none
def zF3 (n:Nat):List (Nat×Plan)->Nat->Option (Nat×Plan)
 | [],_=>none
 | (m,p)::es,i=>if Nat.beq m n then some (i,p)else zF3 n es (i+1)
def zN3 (S:List SC) (s k:Nat) (t:T):List SC:=
 match (sget S s).av with
 | .ref r v p u x=>match (sget S r).root with
   | some (tr,xr,_)=>if Nat.beq k 0&&(decide (u=t)&&(decide (sAt tr p=t)&&(zGy tr p&&(!Nat.beq s r&&z29 v (sget S r).v 0))))then
      sset (sset S r ((sget S r).setRoot (zBL tr p t.moved) xr (sget S r).v.head)) s ⟨.val t (smix t x (getX xr p)),(sget S s).v.kill⟩else S
   | none=>S
 | _=>S
def z6N:List (Nat×Nat×T)->List SC->List SC
 | [],S=>S
 | (s,k,t)::ps,S=>z6N ps (zN3 S s k t)
theorem zOq {Γ:Env} {E:Entry} {ρ:List D} (S:List SC) (s k:Nat) (t:T):Wk Γ E (z1Q ρ S) (z1Q ρ (zN3 S s k t)):=by
 unfold zN3
 split
 case h_2=>exact Wk.refl _
 rename_i r v p u x hs
 split
 case h_2=>exact Wk.refl _
 rename_i tr xr bx hr
 split
 case isFalse=>exact Wk.refl _
 rename_i hb
 simp only[Bool.and_eq_true,decide_eq_true_eq,Bool.not_eq_true']at hb
 obtain⟨_,rfl,hat,hfl,hne,hl⟩:=hb
 have hS:(z1Q ρ S s).av=.ref r v (z0Z.conc ρ p) u (x.den ρ):=by rw[z13]; simp only[SC.conc,hs,SV.conc]
 have hR:(z1Q ρ S r).root=some (tr,xr.den ρ,bx):=by rw[z13,SC.root_conc,hr]; rfl
 have hv:(z1Q ρ S r).v=(sget S r).v:=by rw[z13]; rfl
 have hv2:(z1Q ρ S s).v=(sget S s).v:=by rw[z13]; rfl
 have:=zQZ (Γ:=Γ) (E:=E) hS hR (z3a hne) (by rw[hv]; exact z0l hl) (by rw[z6d]; exact hfl) (by rw[z1d]; exact hat)
 rw[hv,hv2,z6k,<- z28,<- zA3,z13,<- SC.setRoot_conc]at this
 rw[<- z7E,<- z7E]
 exact this
theorem z9i {Γ:Env} {E:Entry} {ρ:List D}:∀(ps:List (Nat×Nat×T)) (S:List SC),Wk Γ E (z1Q ρ S) (z1Q ρ (z6N ps S))
 | [],S=>Wk.refl _
 | (s,k,t)::ps,S=>(zOq S s k t).trans (z9i ps _)
def zN4 (S:List SC) (s:Nat):List SC:=
 match (sget S s).av with
 | .bref t x r v p=>match (sget S r).root with
   | some (tr,xr,_)=>if decide (sAt tr p=t)&&(zGy tr p&&(!Nat.beq s r&&z29 v (sget S r).v 0))then
      sset (sset S r ((sget S r).setRoot (zBL tr p t.moved) xr (sget S r).v.head)) s ⟨.box t (smix t x (getX xr p)),(sget S s).v.kill⟩else S
   | none=>S
 | _=>S
def z8q:List ResultVar->List SC->List SC
 | [],S=>S
 | .cell a _::rs,S=>z8q rs (zN4 S a)
 | .tmp _::rs,S=>z8q rs S
theorem zN5 {Γ:Env} {E:Entry} {ρ:List D} (S:List SC) (s:Nat):Wk Γ E (z1Q ρ S) (z1Q ρ (zN4 S s)):=by
 unfold zN4
 split
 case h_2=>exact Wk.refl _
 rename_i t x r v p hs
 split
 case h_2=>exact Wk.refl _
 rename_i tr xr bx hr
 split
 case isFalse=>exact Wk.refl _
 rename_i hb
 simp only[Bool.and_eq_true,decide_eq_true_eq,Bool.not_eq_true']at hb
 obtain⟨hat,hfl,hne,hl⟩:=hb
 have hS:(z1Q ρ S s).av=.bref t (x.den ρ) r v (z0Z.conc ρ p):=by rw[z13]; simp only[SC.conc,hs,SV.conc]
 have hR:(z1Q ρ S r).root=some (tr,xr.den ρ,bx):=by rw[z13,SC.root_conc,hr]; rfl
 have hv:(z1Q ρ S r).v=(sget S r).v:=by rw[z13]; rfl
 have hv2:(z1Q ρ S s).v=(sget S s).v:=by rw[z13]; rfl
 have:=zOr (Γ:=Γ) (E:=E) hS hR (z3a hne) (by rw[hv]; exact z0l hl) (by rw[z6d]; exact hfl) (by rw[z1d]; exact hat)
 rw[hv,hv2,z6k,<- z28,<- zA3,z13,<- SC.setRoot_conc]at this
 rw[<- z7E,<- z7E]
 exact this
theorem zBM {Γ:Env} {E:Entry} {ρ:List D}:∀(rs:List ResultVar) (S:List SC),Wk Γ E (z1Q ρ S) (z1Q ρ (z8q rs S))
 | [],S=>Wk.refl _
 | .cell a _::rs,S=>(zN5 S a).trans (zBM rs _)
 | .tmp _::rs,S=>zBM rs S
def zMi (es:List (Nat×Plan)) (i0:Nat) (S0:List SC) (e:Exit) (S:List SC):Option PE:=
 match zPQ e with
 | none=>none
 | some n=>match zF3 n es 0 with
   | none=>none
   | some (i,p)=>if zL9 p.keep S0 (z6N p.pass S)&&zNn p S0 (z6N p.pass S)then(z6v p.pass (z6N p.pass S)).map (.out (i0+i))else none
def zNW:Nat->Exit
 | 0=>.normal
 | 1=>.ret
 | n+2=>.exit n
theorem zPR {e:Exit} {n:Nat} (h:zPQ e=some n):zNW n=e:=by
 cases e <;> simp[zPQ]at h <;> subst h <;> rfl
def zKV (S0:List SC) (f:Fs) (d:Nat) (k:Exit->List SC->Fs->Nat->Option PE):List (Nat×Plan)->Option PE
 | []=>some .bot
 | (n,p)::es=>if ltL (d+p.pass.length) (z57 p S0 d)then(k (zNW n) (z57 p S0 d) f (d+p.pass.length)).bind fun a=>(zKV S0 f d k es).map (.alt (.take p.pass.length a))else none
theorem zBZ {n:Nat}:∀{es:List (Nat×Plan)} {k i:Nat} {p:Plan},zF3 n es k=some (i,p)->k<=i/\es[i-k]? = some (n,p)
 | [],_,_,_,h=>by cases h
 | (m,q)::es,k,i,p,h=>by
   unfold zF3 at h;split at h
   ·rename_i hb;simp only[Option.some.injEq,Prod.mk.injEq]at h;obtain⟨rfl,rfl⟩:=h;have:=Nat.eq_of_beq_eq_true hb;subst this;exact⟨Nat.le_refl _,by simp⟩
   ·obtain⟨h1,h2⟩:=zBZ h;refine⟨by omega,?_⟩;rw[show i-k=(i-(k+1))+1 by omega];simpa using h2
theorem zCQ {cs:List Ent} {S0:List SC} {f:Fs} {d:Nat} {k:Exit->List SC->Fs->Nat->Option PE} {ρ:List D} {o}:∀{es:List (Nat×Plan)} {ks:PE} {i:Nat} {n:Nat} {p:Plan} {l:List D},zKV S0 f d k es=some ks->es[i]? = some (n,p)->den cs ks ρ i l=some o->l.length=p.pass.length ->
 ltL (d+p.pass.length) (z57 p S0 d)=true/\∃pe,k (zNW n) (z57 p S0 d) f (d+p.pass.length)=some pe/\den cs pe (ρ++l) 0 []=some o
 | [],_,_,_,_,_,_,h,_,_=>by simp at h
 | (m,q)::es,ks,i,n,p,l,h,hi,hd,hll=>by
   unfold zKV at h;split at h
   case isFalse=>cases h
   rename_i hlt;simp only[Option.bind_eq_some_iff,Option.map_eq_some_iff]at h;obtain⟨a,ha,b,hb,rfl⟩:=h
   cases i with
   | zero=>
     simp only[List.getElem?_cons_zero,Option.some.injEq,Prod.mk.injEq]at hi;obtain⟨rfl,rfl⟩:=hi;simp only[den,sel2]at hd;rw[zJV l q.pass.length 0 (by omega)]at hd;exact⟨hlt,a,ha,hd⟩
   | succ i=>
     exact zCQ hb (by simpa using hi) (by simpa [den,sel2]using hd) hll
def zJ1 (key:Nat):List (Nat×Hint)->Option Hint
 | []=>none
 | (m,h)::l=>if Nat.beq m key then some h else zJ1 key l
abbrev Kont:=Exit->List SC->Fs->Nat->Option PE
def finOf (draw:Bool) (ops:Array Oper):List Tr->Bool:=if draw then z23 (ancs .any ops.toList)else fun _=>true
def zQ4 (ops:List Oper):Option (List Oper×Nat×TypeId×Nat×Bool):=
 match ops.reverse with
 | ⟨some s,.binOp op t (.tmp x) (.const (.slice none 0 0)) _,_,_,_,none⟩::os=>match op with
   | .eql=>some (os.reverse,s,t,x,true)
   | .neq=>some (os.reverse,s,t,x,false)
   | _=>none
 | _=>none
def nilK (Γ:Env) (s:Nat) (t:TypeId) (x:Nat) (eq:Bool) (k:List SC->Fs->Nat->Option PE):List SC->Fs->Nat->Option PE:=fun S f d=>
 match (sget S x).av with
 | .val (.lst o e) y=>if z9N Γ s&&(y.lt d&&((T.lst o e).plain&&(Γ.ty t).lsts))then
    (k (sset S s ⟨.val .bool (.b eq),(sget S s).v.kill⟩) f d).bind fun p=>(k (sset S s ⟨.val .bool (.b !eq),(sget S s).v.kill⟩) f d).map fun q=>.any y p q
   else none
 | _=>none
def sx (Γ:Env) (cs:List Ent) (hs:List (Nat×Hint)):Code->Nat->List SC->Fs->Nat->Kont->Option PE
 | .skip,_,S,f,d,k=>k .normal S f d
 | .label _,_,S,f,d,k=>k .normal S f d
 | .exit id,_,S,f,d,k=>k (.exit id) S f d
 | .ret,_,S,f,d,k=>k .ret S f d
 | .region _ ops draw,_,S,f,d,k=>
   if draw then
    if zOH .any ops then z7Y Γ cs ops (z23 (ancs .any ops.toList)) ops.toList 0 [] S f d (k .normal)else none
   else match zQ4 ops.toList with
    | some (os,s,t,x,eq)=>z7Y Γ cs ops (fun _=>true) os 0 [] S f d (nilK Γ s t x eq (k .normal))
    | none=>z7Y Γ cs ops (fun _=>true) ops.toList 0 [] S f d (k .normal)
 | .seq a b,key,S,f,d,k=>
   let k':Kont:=fun e S f d=>match e with
    | .normal=>sx Γ cs hs b (2*key+1) S f d k
    | e=>k e S f d
   match zJ1 key hs with
   | some (.join es)=>(sx Γ cs hs a (2*key) S f d fun e S' _ _=>zMi es 0 S e S').bind fun pa=>(zKV S f d k' es).map (.bind pa)
   | _=>sx Γ cs hs a (2*key) S f d k'
 | .cond x a b,key,S,f,d,k=>
   match x with
   | .tmp s=>match (sget S s).av with
     | .val .bool x=>match zG4 f x with
       | some true=>sx Γ cs hs a (2*key) S f d k
       | some false=>sx Γ cs hs b (2*key+1) S f d k
       | none=>if x.lt d then(sx Γ cs hs a (2*key) S ((x,true)::f) d k).bind fun p=>(sx Γ cs hs b (2*key+1) S ((x,false)::f) d k).map (.ite x p)else none
     | _=>none
   | .const (.bool true)=>sx Γ cs hs a (2*key) S f d k
   | .const (.bool false)=>sx Γ cs hs b (2*key+1) S f d k
   | _=>none
 | .block id c,key,S,f,d,k=>sx Γ cs hs c (2*key) S f d fun e S f d=>match e with
    | .exit id'=>if Nat.beq id' id then k .normal S f d else k (.exit id') S f d
    | e=>k e S f d
 | .loop c,key,S,f,d,k=>
   match zJ1 key hs with
   | some (.loop h es)=>
     if ltL d (z6N h.pass S)&&((zL9 h.keep (z6N h.pass S) (z6N h.pass S)&&zNn h (z6N h.pass S) (z6N h.pass S))&&ltL (d+h.pass.length) (z57 h (z6N h.pass S) d))then
      (z6v h.pass (z6N h.pass S)).bind fun xs=>(sx Γ cs hs c (2*key) (z57 h (z6N h.pass S) d) f (d+h.pass.length) fun e S' _ _=>match e with
        | .normal=>zMi [(0,h)] 0 (z6N h.pass S) .normal S'
        | e=>zMi es 1 (z6N h.pass S) e S').bind fun body=>(zKV (z6N h.pass S) f d k es).map (.loop xs (.take h.pass.length body))
     else none
   | _=>none
 | _,_,_,_,_,_=>none
variable {P : Program} {Γ : Env} {E : Entry} {cs : List Ent}
theorem Wf.fact {ρ:List D} {S:List SC} {f:Fs} {d:Nat} (hw:Wf ρ S f d) {x:X} {b:Bool} (hl:x.lt d=true) (hb:(x.den ρ).b=b):Wf ρ S ((x,b)::f) d:=by
 refine⟨hw.len,hw.lt,?_,?_⟩
 ·intro y c hm;simp only[List.mem_cons,Prod.mk.injEq]at hm;rcases hm with ⟨rfl,rfl⟩ | hm
  ·exact hb
  ·exact hw.facts y c hm
 ·have:=hw.flt;simp only[ltF,List.all_cons,Bool.and_eq_true]at this |-;exact⟨hl,this⟩
def zRv (Γ:Env) (E:Entry) (Q:Exit->St->Prop):Prop:=∀e S S',Wk Γ E S S'->Q e S'->Q e S
theorem zCo {es:List (Nat×Plan)} {i0:Nat} {S0 S:List SC} {e:Exit} {pe:PE} {ρ l:List D} {o:Nat×List D} {d:Nat} (h:zMi es i0 S0 e S=some pe) (hd:den cs pe (ρ++l) 0 []=some o) (hlen:ρ.length=d) (hS0:ltL d S0=true) :
 ∃i n p,es[i]? = some (n,p)/\zNW n=e/\o.1=i0+i/\o.2.length=p.pass.length/\Wk Γ E (z1Q (ρ++l) S) (z1Q (ρ++o.2) (z57 p S0 d)):=by
 unfold zMi at h
 split at h
 ·cases h
 ·rename_i n hn;split at h
  ·cases h
  ·rename_i i p hp;obtain⟨_,hp⟩:=zBZ hp;rw[Nat.sub_zero]at hp;split at h
   case isFalse=>cases h
   rename_i hk;simp only[Bool.and_eq_true]at hk;simp only[Option.map_eq_some_iff]at h;obtain⟨xs,hx,rfl⟩:=h;simp only[den,Option.some.injEq]at hd;subst hd;exact⟨i,n,p,hp,zPR hn,rfl,by simp[zB9 hx],(z9i _ _).trans (zKS hlen hS0 hx hk.1 hk.2).wk⟩
theorem zGY {X:Ctr} {ops:Array Oper} {K:St->Prop} {l2:List Oper}:∀(l1:List Oper) {S:St},opsL X Γ ops l1 S (fun S=>opsL X Γ ops l2 S K)->opsL X Γ ops (l1++l2) S K
 | [],_,h=>h
 | _::os,_,h=>A.wp_mono (fun _ h=>zGY os h) h
theorem zLP {X:Ctr} {ops:Array Oper} {K K':St->Prop} (hk:∀S,K S->K' S):∀(l:List Oper) {S:St},opsL X Γ ops l S K->opsL X Γ ops l S K'
 | [],_,h=>hk _ h
 | _::os,_,h=>A.wp_mono (fun _ h=>zLP hk os h) h
theorem zIK {ops os:List Oper} {s t x eq} (h:zQ4 ops=some (os,s,t,x,eq)) :
 ∃last:Oper,ops=os++[last]/\last.guard=none/\∃u,last.dst=some s/\last.op=.binOp (if eq then .eql else .neq) t (.tmp x) (.const (.slice none 0 0)) u:=by
 unfold zQ4 at h
 split at h
 ·rename_i s' op t' x' u a b c os' hr;have hr':ops=os'.reverse++[⟨some s',.binOp op t' (.tmp x') (.const (.slice none 0 0)) u,a,b,c,none⟩]:=by
   have:=congrArg List.reverse hr;simpa using this
  split at h <;> simp only[Option.some.injEq,Prod.mk.injEq,reduceCtorEq]at h
  ·obtain⟨rfl,rfl,rfl,rfl,rfl⟩:=h;exact⟨_,hr',rfl,_,rfl,rfl⟩
  ·obtain⟨rfl,rfl,rfl,rfl,rfl⟩:=h;exact⟨_,hr',rfl,_,rfl,rfl⟩
 ·cases h
theorem zMn {ops os:List Oper} {s t x eq} (h:zQ4 ops=some (os,s,t,x,eq)):∃last,ops=os++[last]:=by
 obtain⟨last,h,_⟩:=zIK h
 exact⟨last,h⟩
theorem zOk {ops:Array Oper} {os:List Oper} {s t x eq} (hn:zQ4 ops.toList=some (os,s,t,x,eq)) {k:List SC->Fs->Nat->Option PE} {ρ:List D} {l:List D} {S:List SC} {f:Fs} {d:Nat} {pe:PE} {o} {K:St->Prop}
 (h:nilK Γ s t x eq k S f d=some pe) (hw:Wf (ρ++l) S f d) (hd:den cs pe (ρ++l) 0 []=some o) (hK:Kok cs o ρ k K) :
 ∃last,ops.toList=os++[last]/\opsL (VX P) Γ ops [last] (z1Q (ρ++l) S) K:=by
 obtain⟨last,hl,hg,u,hdst,hop⟩:=zIK hn
 refine⟨last,hl,?_⟩
 unfold nilK at h
 split at h
 case h_2=>cases h
 rename_i lo e y hy
 split at h
 case isFalse=>cases h
 rename_i hb
 simp only[Bool.and_eq_true]at hb
 obtain⟨hb1,hb2,hb3,hb4⟩:=hb
 simp only[Option.bind_eq_some_iff,Option.map_eq_some_iff]at h
 obtain⟨p,hp,q,hq,rfl⟩:=h
 simp only[den]at hd
 obtain⟨hq',hp'⟩:=zRr hd
 have wf:∀b:Bool,Wf (ρ++l) (sset S s ⟨.val .bool (.b b),(sget S s).v.kill⟩) f d:=fun b=>⟨hw.len,zF6 hw.lt rfl,hw.facts,hw.flt⟩
 have c1:=fun(h:(y.den (ρ++l)).l.isEmpty=true)=>hK _ _ _ _ _ hp (wf eq) (hp' h)
 have c2:=hK _ _ _ _ _ hq (wf !eq) hq'
 rw[<- z7E]at c2
 have c1':=fun(h:(y.den (ρ++l)).l.isEmpty=true)=>by have:=c1 h; rw[<- z7E]at this; exact this
 have hds:=z1P hb1
 have hav:(z1Q (ρ++l) S x).av=.val (.lst lo e) (y.den (ρ++l)):=by
  rw[z13]; simp only[SC.conc,hy,SV.conc]
 have hv:(z1Q (ρ++l) S s).v=(sget S s).v:=by rw[z13]; rfl
 show(opG Γ ops last).wp (VX P) _ _
 unfold opG
 rw[hg]
 simp only
 unfold opA
 rw[hop,hdst]
 have hag:(Γ.ty t).agg=false:=by
  revert hb2 hb3 hb4
  generalize Γ.ty t=T
  cases T <;> simp
 simp only[hag,Bool.false_eq_true,if_false]
 cases eq with
 | true=>
   simp only[if_true];simp only[zOm,opd,A.wp,z7F,hav,hb3,if_true,out,hb4,hv,true_and];refine⟨fun hl=>⟨⟨hds.1,hds.2,trivial⟩,?_⟩,⟨hds.1,hds.2,trivial⟩,?_⟩
   ·exact c1' (by simp[hl])
   ·exact c2
 | false=>
   simp only[Bool.false_eq_true,if_false];simp only[zOm,opd,A.wp,z7F,hav,hb3,if_true,out,hb4,hv,true_and];refine⟨fun hl=>⟨⟨hds.1,hds.2,trivial⟩,?_⟩,⟨hds.1,hds.2,trivial⟩,?_⟩
   ·exact c1' (by simp[hl])
   ·exact c2
theorem zRm (ok:EnvOk P Γ) (hcs:∀e∈cs,e.Ok P) {hs:List (Nat×Hint)}:∀(c:Code) {key:Nat} {S:List SC} {f:Fs} {d:Nat} {k:Kont} {pe:PE} {ρ:List D} {o:Nat×List D} {Q:Exit->St->Prop},
 sx Γ cs hs c key S f d k=some pe->Wf ρ S f d->den cs pe ρ 0 []=some o->zRv Γ E Q ->
 (∀e S' f' d' pe' l,k e S' f' d'=some pe'->Wf (ρ++l) S' f' d'->den cs pe' (ρ++l) 0 []=some o->Q e (z1Q (ρ++l) S'))->Ex P Γ E c Q (z1Q ρ S):=by
 intro c
 have nil:∀{ρ:List D},ρ++[]=ρ:=fun {ρ}=>List.append_nil ρ
 induction c with
 | skip=>
   intro key S f d k pe ρ o Q h hw hd _ hk;refine Ex.skip ?_;have:=hk .normal S f d pe [] h (by rwa [nil]) (by rwa [nil])
   rwa [nil]at this
 | label l=>
   intro key S f d k pe ρ o Q h hw hd _ hk;refine Ex.label ?_;have:=hk .normal S f d pe [] h (by rwa [nil]) (by rwa [nil])
   rwa [nil]at this
 | exit id=>
   intro key S f d k pe ρ o Q h hw hd _ hk;refine Ex.exit ?_;have:=hk (.exit id) S f d pe [] h (by rwa [nil]) (by rwa [nil])
   rwa [nil]at this
 | ret=>
   intro key S f d k pe ρ o Q h hw hd _ hk;refine Ex.ret ?_;have:=hk .ret S f d pe [] h (by rwa [nil]) (by rwa [nil])
   rwa [nil]at this
 | region id ops draw=>
   intro key S f d k pe ρ o Q h hw hd _ hk;have hK:Kok cs o ρ (k .normal) (Q .normal):=fun S' f' d' pe' l h1 h2 h3=>hk .normal S' f' d' pe' l h1 h2 h3;unfold sx at h
   cases draw with
   | true=>
     simp only[if_true]at h;split at h
     case isFalse=>cases h
     rename_i hdn;refine Ex.opsAny ok hdn ?_;have:=z77 (Γ:=Γ) (ρ0:=ρ) (l:=[]) (tr':=[]) hcs (Fin:=fun tr=>z23 (ancs .any ops.toList) tr=true) (fun tr tr' h1 h2=>zFI h1 h2) ops.toList h hK (by rwa [nil]) (by rwa [nil]) trivial;rw[nil]at this;exact zLO _ this
   | false=>
     simp only[Bool.false_eq_true,if_false]at h;split at h
     ·rename_i os s t x eq hn;have:=z77 (Γ:=Γ) (ρ0:=ρ) (l:=[]) (tr':=[]) hcs (Fin:=fun _=>True) (K:=fun S=>∃last,ops.toList=os++[last]/\opsL (VX P) Γ ops [last] S (Q .normal)) (fun _ _ _ _=>trivial) os h ?_ (by rwa [nil]) (by rwa [nil]) trivial
      ·rw[nil]at this;refine Ex.ops ok ?_;have h2:=zGX _ this;rw[show ops.toList=os++[ops.toList.getLast?.getD default] by
        obtain⟨last,hl⟩:=zMn hn;rw[hl]; simp]
       refine zGY os (zLP (fun S h=>?_) os h2);obtain⟨last,hl,h⟩:=h;rw[hl];simpa using h
      ·intro S' f' d' pe' l h1 h2 h3;exact zOk hn h1 h2 h3 hK
     ·have:=z77 (Γ:=Γ) (ρ0:=ρ) (l:=[]) (tr':=[]) hcs (Fin:=fun _=>True) (fun _ _ _ _=>trivial) ops.toList h hK (by rwa [nil]) (by rwa [nil]) trivial;rw[nil]at this;exact Ex.ops ok (zGX _ this)
 | seq a b iha ihb=>
   intro key S f d k pe ρ o Q h hw hd hQ hk;have hlen:=hw.len;refine Ex.seq ?_;have hcl:zRv Γ E (zM1 (Ex P Γ E b Q) Q):=by
    intro e S S' hW h
    cases e with
    | normal=>exact Ex.wk hW h
    | _=>exact hQ _ _ _ hW h
   unfold sx at h;simp only at h;have plain:sx Γ cs hs a (2*key) S f d (fun e S f d=>match e with
    | .normal=>sx Γ cs hs b (2*key+1) S f d k
    | e=>k e S f d)=some pe->Ex P Γ E a (zM1 (Ex P Γ E b Q) Q) (z1Q ρ S):=by
    intro h;refine iha h hw hd hcl ?_;intro e S' f' d' pe' l h1 h2 h3
    cases e with
    | normal=>
      refine ihb h1 h2 h3 hQ fun e S2 f2 d2 pe2 l2 g1 g2 g3=>?_;rw[List.append_assoc]at g2 g3 |-;exact hk e S2 f2 d2 pe2 (l++l2) g1 g2 g3
    | _=>exact hk _ S' f' d' pe' l h1 h2 h3
   split at h
   ·rename_i es hes;simp only[Option.bind_eq_some_iff,Option.map_eq_some_iff]at h;obtain⟨pa,hpa,ks,hks,rfl⟩:=h;simp only[den,Option.bind_eq_some_iff]at hd;obtain⟨o1,hd1,hd2⟩:=hd;refine iha (k:=fun e S' _ _=>zMi es 0 S e S') hpa hw hd1 hcl ?_;intro e S' f' d' pe' l h1 h2 h3;obtain⟨i,n,p,g1,g2,g3,g4,g5⟩:=zCo h1 h3 hlen hw.lt;rw[Nat.zero_add]at g3;rw[g3]at hd2;obtain⟨g6,pe2,g7,g8⟩:=zCQ hks g1 hd2 g4;have hw2:Wf (ρ++o1.2) (z57 p S d) f (d+p.pass.length):=⟨by simp[hlen,g4],g6,hw.facts.append (by rw[hlen]; exact hw.flt),zF5 (by omega) hw.flt⟩;refine hcl e _ _ g5 ?_;rw[g2]at g7
    cases e with
    | normal=>
      refine ihb g7 hw2 g8 hQ fun e S2 f2 d2 pe2 l2 k1 k2 k3=>?_;rw[List.append_assoc]at k2 k3 |-;exact hk e S2 f2 d2 pe2 (o1.2++l2) k1 k2 k3
    | _=>exact hk _ _ f _ pe2 o1.2 g7 hw2 g8
   ·exact plain h
 | cond x a b iha ihb=>
   intro key S f d k pe ρ o Q h hw hd hQ hk;unfold sx at h
   cases x with
   | tmp s=>
     simp only at h;refine Ex.cond ?_;simp only[zR3];rw[z13];have hlc:=z9k hw.lt s;generalize sget S s=c at h hlc;obtain⟨av,ver⟩:=c;simp only[SC.conc]
     cases av with
     | val ty x=>
       cases ty with
       | bool=>
         simp only[SV.conc]at h |-
         cases hk':zG4 f x with
         | some bb=>
           rw[hk']at h;have hb:=z9x hw.facts hk'
           cases bb with
           | true=>exact⟨fun _=>iha h hw hd hQ hk,fun hf=>by rw[hb]at hf; cases hf⟩
           | false=>exact⟨fun hf=>(by rw[hb]at hf; cases hf),fun _=>ihb h hw hd hQ hk⟩
         | none=>
           rw[hk']at h;simp only at h;split at h
           case isFalse=>cases h
           rename_i hlx;simp only[Option.bind_eq_some_iff,Option.map_eq_some_iff]at h;obtain⟨p,hp,q,hq,rfl⟩:=h;simp only[den]at hd;refine⟨fun hb=>?_,fun hb=>?_⟩
           ·rw[if_pos hb]at hd;exact iha hp (hw.fact hlx hb) hd hQ hk
           ·rw[if_neg (by rw[hb]; simp)]at hd;exact ihb hq (hw.fact hlx hb) hd hQ hk
       | _=>cases h
     | _=>cases h
   | const v=>
     cases v with
     | bool bb=>
       refine Ex.cond ?_;simp only[zR3]
       cases bb with
       | true=>exact⟨fun _=>iha h hw hd hQ hk,fun hf=>by cases hf⟩
       | false=>exact⟨fun hf=>(by cases hf),fun _=>ihb h hw hd hQ hk⟩
     | _=>cases h
   | _=>cases h
 | block id c ih=>
   intro key S f d k pe ρ o Q h hw hd hQ hk;unfold sx at h;refine Ex.block (ih h hw hd ?_ ?_)
   ·intro e S S' hW h
    cases e with
    | exit id'=>
      simp only[zFM]at h |-;by_cases hi:id'=id
      ·rw[if_pos hi]at h |-; exact hQ _ _ _ hW h
      ·rw[if_neg hi]at h |-; exact hQ _ _ _ hW h
    | _=>exact hQ _ _ _ hW h
   ·intro e S' f' d' pe' l h1 h2 h3
    cases e with
    | exit id'=>
      simp only[zFM]at h1 |-;by_cases hi:id'=id
      ·subst hi;rw[if_pos rfl];simp only[Nat.beq_refl,if_true]at h1;exact hk _ S' f' d' pe' l h1 h2 h3
      ·rw[if_neg hi];have:Nat.beq id' id=false:=by
        cases hb:Nat.beq id' id with
        | false=>rfl
        | true=>exact absurd (Nat.eq_of_beq_eq_true hb) hi
       simp only[this,Bool.false_eq_true,if_false]at h1;exact hk _ S' f' d' pe' l h1 h2 h3
    | _=>exact hk _ S' f' d' pe' l h1 h2 h3
 | loop c ih=>
   intro key S f d k pe ρ o Q h hw hd hQ hk;have hlen:=hw.len;unfold sx at h;split at h
   case h_2=>cases h
   rename_i hp es hes;split at h
   case isFalse=>cases h
   rename_i hkp;simp only[Bool.and_eq_true]at hkp;refine Ex.wk (z9i hp.pass S) ?_
   replace hw:Wf ρ (z6N hp.pass S) f d:=⟨hw.len,hkp.1,hw.facts,hw.flt⟩
   replace hkp:=hkp.2
   generalize z6N hp.pass S=S at *;simp only[Option.bind_eq_some_iff,Option.map_eq_some_iff]at h;obtain⟨xs,hxs,body,hbody,ks,hks,rfl⟩:=h;simp only[den,Option.bind_eq_some_iff]at hd;obtain⟨o1,hd1,hd2⟩:=hd;obtain⟨n,hn⟩:=zCt hd1;have hw0:Wk Γ E (z1Q ρ S) (z1Q (ρ++xs.map (X.den ρ)) (z57 hp S d)):=by
    have:=zKS (l:=[]) hlen hw.lt hxs hkp.1.1 hkp.1.2;rw[nil]at this;exact this.wk
   refine Ex.loop (fun n S'=>∃l,zAy (fun l=>den cs (.take hp.pass.length body) ρ 0 l) n l=some o1/\l.length=hp.pass.length/\Wk Γ E S' (z1Q (ρ++l) (z57 hp S d))) (n:=n) ⟨_,hn,by simp[zB9 hxs],hw0⟩ ?_;rintro n S1 ⟨l,hit,hll,hW⟩;refine Ex.wk hW ?_
   cases n with
   | zero=>cases hit
   | succ n=>
     unfold zAy at hit;simp only[den]at hit;rw[zJV l hp.pass.length 0 (by omega),List.drop_zero]at hit
     cases hdl:den cs body (ρ++l) 0 []with
     | none=>rw[hdl]at hit; cases hit
     | some ob=>
       rw[hdl]at hit;have hwh:Wf (ρ++l) (z57 hp S d) f (d+hp.pass.length):=⟨by simp[hlen,hll],hkp.2,hw.facts.append (by rw[hlen]; exact hw.flt),zF5 (by omega) hw.flt⟩;refine ih hbody hwh hdl ?_ ?_
       ·intro e S S' hW h
        cases e with
        | normal=>
          obtain⟨m,h1,l',h2,h3,h4⟩:=h;exact⟨m,h1,l',h2,h3,hW.trans h4⟩
        | _=>exact hQ _ _ _ hW h
       ·intro e S' f' d' pe' l' h1 h2 h3;rw[List.append_assoc]at h3 |-;have other:e≠.normal->zMi es 1 S e S'=some pe'->Q e (z1Q (ρ++(l++l')) S'):=by
         intro hne h1;obtain⟨i,m,p,g1,g2,g3,g4,g5⟩:=zCo h1 h3 hlen hw.lt;obtain⟨t,vals⟩:=ob;simp only at g3 g4 g5 hit;subst g3;rw[Nat.add_comm]at hit;simp only[Option.some.injEq]at hit;subst hit;simp only at hd2;obtain⟨g6,pe2,g7,g8⟩:=zCQ hks g1 hd2 g4;rw[g2]at g7;exact hQ _ _ _ g5 (hk e _ f _ pe2 vals g7 ⟨by simp[hlen,g4],g6,hw.facts.append (by rw[hlen]; exact hw.flt),zF5 (by omega) hw.flt⟩ g8)
        cases e with
        | normal=>
          obtain⟨i,m,p,g1,g2,g3,g4,g5⟩:=zCo h1 h3 hlen hw.lt;have hi:i=0:=by
           have:=(List.getElem?_eq_some_iff.1 g1).1;simpa using this
          subst hi;simp only[List.getElem?_cons_zero,Option.some.injEq,Prod.mk.injEq]at g1;obtain⟨rfl,rfl⟩:=g1;obtain⟨t,vals⟩:=ob;simp only at g3 g4 g5 hit;subst g3;simp only at hit;exact⟨n,Nat.lt_succ_self n,vals,hit,g4,g5⟩
        | _=>exact other (by simp) h1
 | _=>
   intro key S f d k pe ρ o Q h hw hd hQ hk;unfold sx at h
   cases h
end
end Go.Own
