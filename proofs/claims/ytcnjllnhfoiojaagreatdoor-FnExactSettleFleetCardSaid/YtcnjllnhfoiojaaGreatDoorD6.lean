/- A layer over the walk: what lies in memory as plain data, each operation by what it does to data; part 24. -/
import Derived.Test.YtcnjllnhfoiojaaGreatDoorD3
set_option linter.unusedSectionVars false
set_option linter.unusedVariables false
set_option linter.unusedSimpArgs false
namespace Go.Own
variable [Glb]
noncomputable section
open Go
inductive PE where
 | out (n:Nat) (xs:List X)
 | assert (x:X) (k:PE)
 | ite (x:X) (a b:PE)
 | call (i:Nat) (xs:List X) (k:PE)
 | bind (p ks:PE)
 | loop (init:List X) (body ks:PE)
 | alt (a b:PE)
 | take (m:Nat) (k:PE)
 | any (x:X) (p q:PE)
 | bot
 deriving Inhabited
abbrev Outc:=Option (Nat×List D)
def zAi (f:List D->Outc):Nat->List D->Outc
 | 0,_=>none
 | n+1,l=>match f l with
   | none=>none
   | some (0,l')=>zAi f n l'
   | some (t+1,l')=>some (t,l')
open Classical in
def z0Y (f:List D->Outc) (l:List D):Outc:=if h:∃n r,zAi f n l=some r then some h.choose_spec.choose else none
theorem zJz {f:List D->Outc}:∀{n:Nat} {l:List D} {r},zAi f n l=some r->zAi f (n+1) l=some r
 | 0,l,r,h=>by cases h
 | n+1,l,r,h=>by
   unfold zAi at h |-
   cases hf:f l with
   | none=>rw[hf]at h; cases h
   | some q=>
     obtain⟨t,l'⟩:=q;rw[hf]at h
     cases t with
     | zero=>exact zJz h
     | succ t=>exact h
theorem zJy {f:List D->Outc} {n m:Nat} {l:List D} {r} (h:zAi f n l=some r) (hm:n<=m):zAi f m l=some r:=by
 induction hm with
 | refl=>exact h
 | step _ ih=>exact zJz ih
theorem zLD {f:List D->Outc} {n:Nat} {l:List D} {r} (h:zAi f n l=some r):z0Y f l=some r:=by
 have hex:∃n r,zAi f n l=some r:=⟨n,r,h⟩
 unfold z0Y
 rw[dif_pos hex]
 have h2:=hex.choose_spec.choose_spec
 have h3:=zJy h (Nat.le_max_left n hex.choose)
 have h4:=zJy h2 (Nat.le_max_right n hex.choose)
 rw[h3]at h4
 exact h4.symm
theorem zD2 {f:List D->Outc} {l:List D} {r} (h:z0Y f l=some r):∃n,zAi f n l=some r:=by
 unfold z0Y at h
 split at h
 ·rename_i hex;simp only[Option.some.injEq]at h;exact⟨_,by rw[<- h]; exact hex.choose_spec.choose_spec⟩
 ·cases h
theorem z2N {f:List D->Outc} {l l':List D} (h:f l=some (0,l')):z0Y f l=z0Y f l':=by
 cases hr:z0Y f l' with
 | some r=>
   obtain⟨n,hn⟩:=zD2 hr;exact zLD (n:=n+1) (by unfold zAi; rw[h]; exact hn)
 | none=>
   cases hr2:z0Y f l with
   | none=>rfl
   | some r=>
     obtain⟨n,hn⟩:=zD2 hr2
     cases n with
     | zero=>cases hn
     | succ n=>
       unfold zAi at hn; rw[h]at hn;rw[zLD hn]at hr; cases hr
theorem z1A {f:List D->Outc} {l l':List D} {t:Nat} (h:f l=some (t+1,l')):z0Y f l=some (t,l'):=
 zLD (n:=1) (by unfold zAi; rw[h])
def zSi (l:List D):Nat->Nat->List D
 | _,0=>[]
 | k,m+1=>l.getD k .unit::zSi l (k+1) m
theorem zLG (l:List D):∀(m k:Nat),k+m=l.length->zSi l k m=l.drop k
 | 0,k,h=>by rw[zSi,List.drop_eq_nil_of_le (by omega)]
 | m+1,k,h=>by
   rw[zSi,zLG l m (k+1) (by omega),List.drop_eq_getElem_cons (show k<l.length by omega),List.getD_eq_getElem?_getD,List.getElem?_eq_getElem (show k<l.length by omega)];rfl
def sel2 (n:Nat) (a:Outc) (b:Nat->Outc):Outc:=match n with
 | 0=>a
 | n+1=>b n
open Classical in
def two (c:Bool) (p q:Outc):Outc:=if c then(if p=q then q else none)else q
theorem zUM {c:Bool} {p q:Outc} {o} (h:two c p q=some o):q=some o/\(c=true->p=some o):=by
 unfold two at h
 split at h
 ·rename_i hc;split at h
  ·rename_i hpq; exact⟨h,fun _=>hpq ▸ h⟩
  ·cases h
 ·rename_i hc; exact⟨h,fun h=>absurd h hc⟩
theorem zUf {c:Bool} {p q:Outc} (h:c=true->p=q):two c p q=q:=by
 unfold two
 split
 ·rename_i hc; rw[if_pos (h hc)]
 ·rfl
def den (cs:List Ent):PE->List D->Nat->List D->Outc
 | .out n xs,ρ,_,_=>some (n,xs.map (X.den ρ))
 | .assert x k,ρ,n,l=>if (x.den ρ).b=true then den cs k ρ n l else none
 | .ite x a b,ρ,n,l=>if (x.den ρ).b=true then den cs a ρ n l else den cs b ρ n l
 | .call i xs k,ρ,n,l=>(zIE cs i (xs.map (X.den ρ))).bind fun r=>den cs k (ρ++[r]) n l
 | .bind p ks,ρ,_,_=>(den cs p ρ 0 []).bind fun o=>den cs ks ρ o.1 o.2
 | .loop init body ks,ρ,_,_=>(z0Y (fun l=>den cs body ρ 0 l) (init.map (X.den ρ))).bind fun o=>den cs ks ρ o.1 o.2
 | .alt a b,ρ,n,l=>sel2 n (den cs a ρ 0 l) fun n=>den cs b ρ n l
 | .take m k,ρ,n,l=>den cs k (ρ++zSi l 0 m) n []
 | .any x p q,ρ,n,l=>two (x.den ρ).l.isEmpty (den cs p ρ n l) (den cs q ρ n l)
 | .bot,_,_,_=>none
abbrev Fs:=List (X×Bool)
def ltF (d:Nat) (f:Fs):Bool:=f.all fun x=>x.1.lt d
structure Wf (ρ:List D) (S:List SC) (f:Fs) (d:Nat):Prop where
 len:ρ.length=d
 lt:ltL d S=true
 facts:zE9 ρ f
 flt:ltF d f=true
def zRM (f:Fs):List X->PE->PE
 | [],k=>k
 | a::as,k=>match zGz f a with
   | some true=>zRM f as k
   | _=>.assert a (zRM ((a,true)::f) as k)
def zMq:List X->Fs->Fs
 | [],f=>f
 | a::as,f=>zMq as ((a,true)::f)
theorem zCW {cs:List Ent} {ρ:List D}:∀{as:List X} {f:Fs} {k:PE} {n:Nat} {l:List D} {o},zE9 ρ f->den cs (zRM f as k) ρ n l=some o->(∀a∈as,(a.den ρ).b=true)/\den cs k ρ n l=some o
 | [],f,k,n,l,o,_,h=>⟨by simp,h⟩
 | a::as,f,k,n,l,o,hf,h=>by
   unfold zRM at h;split at h
   ·rename_i hk;obtain⟨h1,h2⟩:=zCW hf h;refine⟨fun x hx=>?_,h2⟩;simp only[List.mem_cons]at hx;rcases hx with rfl | hx
    ·exact z9w hf hk
    ·exact h1 x hx
   ·simp only[den]at h;split at h
    ·rename_i hb;obtain⟨h1,h2⟩:=zCW (by
      intro x b hm;simp only[List.mem_cons,Prod.mk.injEq]at hm;rcases hm with ⟨rfl,rfl⟩ | hm
      ·exact hb
      ·exact hf x b hm) h
     refine⟨fun x hx=>?_,h2⟩;simp only[List.mem_cons]at hx;rcases hx with rfl | hx
     ·exact hb
     ·exact h1 x hx
    ·cases h
theorem zGJ {ρ:List D}:∀{as:List X} {f:Fs},zE9 ρ f->(∀a∈as,(a.den ρ).b=true)->zE9 ρ (zMq as f)
 | [],_,hf,_=>hf
 | a::as,f,hf,ha=>zGJ (as:=as) (by
    intro x b hm;simp only[List.mem_cons,Prod.mk.injEq]at hm;rcases hm with ⟨rfl,rfl⟩ | hm
    ·exact ha _ (by simp)
    ·exact hf x b hm) fun x hx=>ha x (by simp[hx])
def ltW (d:Nat) (w:SWr):Bool:=w.all fun x=>x.2.av.lt d
theorem zFw {d:Nat}:∀{l:List SC} {s:Nat} {c:SC},ltL d l=true->c.av.lt d=true->ltL d (sset l s c)=true
 | [],0,c,_,h=>by simp[sset,ltL,h]
 | [],s+1,c,h0,h=>by
   have:=zFw (l:=[]) (s:=s) (c:=c) (d:=d) rfl h;simp only[sset,ltL,List.all_cons,Bool.and_eq_true];exact⟨rfl,this⟩
 | x::l,0,c,h0,h=>by simp[sset,ltL]at h0 |-; exact⟨h,h0.2⟩
 | x::l,s+1,c,h0,h=>by
   simp[ltL]at h0;have:=zFw (l:=l) (s:=s) (c:=c) (d:=d) (by simp[ltL]; exact h0.2) h;simp only[ltL]at this;simp[sset,ltL];exact⟨h0.1,by simpa using this⟩
theorem zD3 {d:Nat}:∀{w:SWr} {l:List SC},ltL d l=true->ltW d w=true->ltL d (zCR l w)=true
 | [],_,h,_=>h
 | (s,c)::w,l,h,hw=>by
   simp only[ltW,List.all_cons,Bool.and_eq_true]at hw;exact zD3 (w:=w) (zFw h hw.1) hw.2
theorem X.lt_mono {d e:Nat} (h:d<=e):∀{x:X},x.lt d=true->x.lt e=true
 | .v n,hx=>by simp[X.lt]at hx |-; omega
 | .u,_ | .i _,_ | .b _,_ | .s _,_ | .nil,_ | .z _,_=>rfl
 | .un o x,hx=>X.lt_mono h (x:=x) hx
 | .bi o x y,hx=>by simp[X.lt]at hx |-; exact⟨X.lt_mono h hx.1,X.lt_mono h hx.2⟩
 | .tri o x y w,hx=>by simp[X.lt]at hx |-; exact⟨X.lt_mono h hx.1,X.lt_mono h hx.2.1,X.lt_mono h hx.2.2⟩
theorem z0d.lt_mono {d e:Nat} (h:d<=e) {p:z0d} (hp:z0d.lt d p=true):z0d.lt e p=true:=by
 simp only[z0d.lt,List.all_eq_true]at hp |-
 intro a ha
 have:=hp a ha
 cases a with
 | f j=>rfl
 | i x=>exact X.lt_mono h this
theorem SV.lt_mono {d e:Nat} (h:d<=e) {a:SV} (ha:a.lt d=true):a.lt e=true:=by
 cases a <;> simp only[SV.lt,Bool.and_eq_true]at ha |-
 case val=>exact X.lt_mono h ha
 case tup=>exact X.lt_mono h ha
 case box=>exact X.lt_mono h ha
 case ref=>exact⟨z0d.lt_mono h ha.1,X.lt_mono h ha.2⟩
 case win=>exact⟨z0d.lt_mono h ha.1,X.lt_mono h ha.2.1,X.lt_mono h ha.2.2⟩
 case ptr=>exact z0d.lt_mono h ha
 case bref=>exact⟨z0d.lt_mono h ha.1,X.lt_mono h ha.2⟩
 case clo f l=>
  rw[List.all_eq_true]at ha |-;intro c hc;have:=ha c hc
  cases c with
  | val t x=>exact X.lt_mono h this
  | ptr r v p=>exact z0d.lt_mono h this
theorem zU2 {d e:Nat} (h:d<=e) {l:List SC} (hl:ltL d l=true):ltL e l=true:=by
 simp only[ltL,List.all_eq_true]at hl |-
 exact fun c hc=>SV.lt_mono h (hl c hc)
theorem zFv {d e:Nat} (h:d<=e) {f:Fs} (hf:ltF d f=true):ltF e f=true:=by
 simp only[ltF,List.all_eq_true]at hf |-
 exact fun c hc=>X.lt_mono h (hf c hc)
theorem zE9.append {ρ l:List D} {f:Fs} (hf:zE9 ρ f) (hl:ltF ρ.length f=true):zE9 (ρ++l) f:=by
 intro x b hm
 simp only[ltF,List.all_eq_true]at hl
 rw[X.den_append l (hl _ hm)]
 exact hf x b hm
theorem z9x {d:Nat}:∀{as:List X} {f:Fs},ltF d f=true->(as.all (X.lt d))=true->ltF d (zMq as f)=true
 | [],_,h,_=>h
 | a::as,f,h,ha=>by
   simp only[List.all_cons,Bool.and_eq_true]at ha;exact z9x (as:=as) (by simp only[ltF,List.all_cons,Bool.and_eq_true]; exact⟨ha.1,h⟩) ha.2
def zPR (cs:List Ent) (f:Fs) (d:Nat) (S:List SC) (r:OpR) (k:List SC->Fs->Nat->Option PE):Option PE:=
 if r.as.all (X.lt d)then
  match r.call with
  | none=>if ltW d r.W then(k (zCR S r.W) (zMq r.as f) d).map (zRM f r.as)else none
  | some (i,xs)=>if ltW (d+1) r.W then(k (zCR S r.W) (zMq r.as f) (d+1)).map fun p=>zRM f r.as (.call i xs p)else none
 else none
def Kok (cs:List Ent) (o:Nat×List D) (ρ0:List D) (k:List SC->Fs->Nat->Option PE) (K:St->Prop):Prop:=
 ∀S f d pe l,k S f d=some pe->Wf (ρ0++l) S f d->den cs pe (ρ0++l) 0 []=some o->K (z1G (ρ0++l) S)
section
variable {P : Program} {cs : List Ent} {Γ : Env}
theorem zPS {ρ:List D} {S:List SC} {f:Fs} {d:Nat} {o} {r:OpR} {k:List SC->Fs->Nat->Option PE} {pe:PE} {a:A} (hsim:Sim P cs ρ S (some r) a) (h:zPR cs f d S r k=some pe) (hw:Wf ρ S f d) (hd:den cs pe ρ 0 []=some o) :
 ∃w:SWr,∃l f' d' pe',k (zCR S w) f' d'=some pe'/\Wf (ρ++l) (zCR S w) f' d'/\den cs pe' (ρ++l) 0 []=some o/\z1G (ρ++l) (zCR S w)=(z1G ρ S).apply (z3L (ρ++l) w)/\w=r.W /\
  ∀R0 K,(∀R',(∀s∈R',s∈R0\/s∈r.R)->K R' (z3L (ρ++l) w))->a.wpD (VX P) R0 (z1G ρ S) K:=by
 unfold zPR at h
 split at h
 case isFalse=>cases h
 rename_i has
 cases hc:r.call with
 | none=>
   rw[hc]at h;simp only at h;split at h
   case isFalse=>cases h
   rename_i hlw;simp only[Option.map_eq_some_iff]at h;obtain⟨pe',hk,rfl⟩:=h;obtain⟨h1,h2⟩:=zCW hw.facts hd;refine⟨r.W,[],_,_,pe',hk,?_,by simpa using h2,?_,rfl,fun R0 K hK=>?_⟩
   ·rw[List.append_nil];exact⟨hw.len,zD3 hw.lt hlw,zGJ hw.facts h1,z9x hw.flt has⟩
   ·rw[List.append_nil,z8Y]
   ·refine hsim r rfl R0 K ⟨h1,?_⟩;rw[hc];intro R' hR';have:=hK R' hR'
    rwa [List.append_nil]at this
 | some q=>
   obtain⟨i,xs⟩:=q;rw[hc]at h;simp only at h;split at h
   case isFalse=>cases h
   rename_i hlw;simp only[Option.map_eq_some_iff]at h;obtain⟨pe',hk,rfl⟩:=h;obtain⟨h1,h2⟩:=zCW hw.facts hd;simp only[den,Option.bind_eq_some_iff]at h2;obtain⟨out,ho,h3⟩:=h2;have hl:=hw.len;refine⟨r.W,[out],_,_,pe',hk,?_,h3,?_,rfl,fun R0 K hK=>?_⟩
   ·refine⟨by simp[hl],zD3 (zU2 (by omega) hw.lt) hlw,?_,zFv (by omega) (z9x hw.flt has)⟩;exact zE9.append (zGJ hw.facts h1) (by rw[hl]; exact z9x hw.flt has)
   ·rw[<- z8Y,zMO (by rw[hl]; exact hw.lt)]
   ·refine hsim r rfl R0 K ⟨h1,?_⟩;rw[hc];exact⟨out,ho,hK⟩
def zPP (c c':SC):Bool:=match c.av,c'.av with
 | .val (.lst true e) _,.val (.lst true e') _=>decide (e=e')&&(decide (c.v.id=c'.v.id)&&decide (c.v.v0=c'.v.v0))
 | .box t _,.box t' _=>decide (t.shape=t'.shape)&&decide (c.v.id=c'.v.id)
 | _,_=>false
theorem zNs {ρ ρ':List D} {c c':SC} (h:zPP c c'=true):zBR (c.conc ρ) (c'.conc ρ')=true:=by
 obtain⟨a,v⟩:=c
 obtain⟨a',v'⟩:=c'
 unfold zPP at h
 split at h
 ·rename_i h1 h2;simp only at h1 h2 h;subst h1 h2;exact h
 ·rename_i h1 h2;simp only at h1 h2 h;subst h1 h2;exact h
 ·cases h
def sgX (o:Oper) (S:List SC) (w:SWr):List Nat:=if (exOf o).isSome then []else(w.map (·.1)).filter fun s=>zPP (sget S s) (sget (zCR S w) s)
def z7h (Γ:Env) (cs:List Ent) (ops:Array Oper) (fin:List Tr->Bool):List Oper->Nat->List Tr->List SC->Fs->Nat->(List SC->Fs->Nat->Option PE)->Option PE
 | [],_,tr,S,f,d,k=>if fin tr then k S f d else none
 | o::os,i,tr,S,f,d,k=>
   let run (f:Fs):Option PE:=match sopA Γ cs S f d o with
    | none=>none
    | some r=>zPR cs f d S r fun S' f d=>z7h Γ cs ops fin os (i+1) (tr++[⟨i,r.R,r.W.map (·.1),exOf o,mvOf o,sgX o S r.W⟩]) S' f d k
   let hole (f:Fs):Option PE:=match sout Γ S o.dst (.tup .unit .u)with
    | none=>none
    | some r=>zPR cs f d S r fun S' f d=>z7h Γ cs ops fin os (i+1) (tr++[⟨i,r.R,r.W.map (·.1),exOf o,mvOf o,sgX o S r.W⟩]) S' f d k
   match o.guard with
   | none=>run f
   | some (j,want)=>match (ops[j]?).bind (·.dst)with
     | none=>none
     | some s=>
       let run' (f:Fs):Option PE:=match sopA Γ cs S f d o with
        | none=>none
        | some r=>zPR cs f d S r fun S' f d=>z7h Γ cs ops fin os (i+1) (tr++[⟨i,s::r.R,r.W.map (·.1),exOf o,mvOf o,sgX o S r.W⟩]) S' f d k
       let hole' (f:Fs):Option PE:=match sout Γ S o.dst (.tup .unit .u)with
        | none=>none
        | some r=>zPR cs f d S r fun S' f d=>z7h Γ cs ops fin os (i+1) (tr++[⟨i,s::r.R,r.W.map (·.1),exOf o,mvOf o,sgX o S r.W⟩]) S' f d k
       match (sget S s).av with
       | .val .bool x=>match zGz f x with
         | some b=>if b==want then run' f else hole' f
         | none=>if x.lt d then
            (if want then run' ((x,true)::f)else hole' ((x,true)::f)).bind fun p=>
            (if want then hole' ((x,false)::f)else run' ((x,false)::f)).map fun q=>.ite x p q
           else none
       | .tup .unit _=>hole' f
       | _=>none
def Tr.Cm (a b:Tr):Prop:=a.x=b.x/\a.m=b.m/\∀s∈b.g,s∈a.g
theorem zVG {ρ ρ':List D} {S:List SC} {w:SWr} {o:Oper}:∀s∈sgX o S w,s∈(if (exOf o).isSome then []else gOf (z1G ρ S) (z3L ρ' w)):=by
 intro s hs
 unfold sgX at hs
 split at hs
 ·cases hs
 ·rename_i hx;rw[if_neg hx];obtain⟨h1,h2⟩:=List.mem_filter.mp hs;refine List.mem_filter.mpr ⟨by rw[z8B]; exact h1,?_⟩;rw[z3z (S':=z1G ρ' S) (by rw[z8B]; exact h1),z8Y,z13,z13];exact zNs h2
def TrLe:List Tr->List Tr->Prop
 | [],[]=>True
 | a::l,b::m=>a.i=b.i/\(a.W=b.W/\a.Cm b)/\(∀s∈a.R,s∈b.R)/\TrLe l m
 | _,_=>False
theorem TrLe.snoc:∀{l m:List Tr} {a b:Tr},TrLe l m->a.i=b.i->a.W=b.W->a.Cm b->(∀s∈a.R,s∈b.R)->TrLe (l++[a]) (m++[b])
 | [],[],_,_,_,h1,h2,hx,h3=>⟨h1,⟨h2,hx⟩,h3,trivial⟩
 | [],_::_,_,_,h,_,_,_,_=>h.elim
 | _::_,[],_,_,h,_,_,_,_=>h.elim
 | x::l,y::m,a,b,h,h1,h2,hx,h3=>⟨h.1,h.2.1,h.2.2.1,TrLe.snoc h.2.2.2 h1 h2 hx h3⟩
theorem zON {a b b':List Nat} (h:dis a b=true) (hs:∀s∈b',s∈b):dis a b'=true:=by
 simp only[dis,List.all_eq_true,Bool.not_eq_true',List.contains_eq_mem,decide_eq_false_iff_not]at h |-
 exact fun s hs' hm=>h s hs' (hs s hm)
theorem zNK {a a' b b':Tr} (h:zH7 a b=true) (ha:a'.W=a.W/\a'.Cm a) (hb:(b'.W=b.W/\b'.Cm b)/\∀s∈b'.R,s∈b.R):zH7 a' b'=true:=by
 unfold zH7 at h |-
 rw[ha.2.2.1,ha.1,hb.1.1]
 cases hm:a.m with
 | none=>rw[hm]at h; cases h
 | some p=>
   rw[hm]at h;simp only[Bool.and_eq_true,List.contains_eq_mem,decide_eq_true_eq]at h |-;exact⟨zON h.1 hb.2,h.2.1,h.2.2.1,hb.1.2.2.2 _ h.2.2.2⟩
theorem zTR {bef:List (List Nat)} {a a' b b':Tr} (h:zCY bef a b=true) (ha:a'.i=a.i/\(a'.W=a.W/\a'.Cm a)/\∀s∈a'.R,s∈a.R) (hb:b'.i=b.i/\(b'.W=b.W/\b'.Cm b)/\∀s∈b'.R,s∈b.R):zCY bef a' b'=true:=by
 unfold zCY at h |-
 rw[ha.1,hb.1,ha.2.1.1,hb.2.1.1,ha.2.1.2.1,hb.2.1.2.1]
 simp only[Bool.or_eq_true,Bool.and_eq_true]at h |-
 rcases h with h | ⟨⟨h1,h2⟩,h3⟩ | h | h | h
 ·exact .inl h
 ·exact .inr (.inl ⟨⟨zON h1 hb.2.2,h2⟩,zON h3 ha.2.2⟩)
 ·exact .inr (.inr (.inl h))
 ·exact .inr (.inr (.inr (.inl (zNK h ha.2.1 hb.2))))
 ·exact .inr (.inr (.inr (.inr (zNK h hb.2.1 ha.2))))
theorem TrLe.mem:∀{l m:List Tr},TrLe l m->∀a∈l,∃b∈m,a.i=b.i/\(a.W=b.W/\a.Cm b)/\∀s∈a.R,s∈b.R
 | [],_,_,_,h=>by cases h
 | _::_,[],h,_,_=>h.elim
 | x::l,y::m,h,a,ha=>by
   simp only[List.mem_cons]at ha;rcases ha with rfl | ha
   ·exact⟨y,by simp,h.1,h.2.1,h.2.2.1⟩
   ·obtain⟨b,hb,h2⟩:=h.2.2.2.mem a ha;exact⟨b,by simp[hb],h2⟩
theorem zG3 {bef:List (List Nat)}:∀{l m:List Tr},TrLe l m->z2R bef m=true->z2R bef l=true
 | [],_,_,_=>rfl
 | _::_,[],h,_=>h.elim
 | x::l,y::m,h,hm=>by
   simp only[z2R,Bool.and_eq_true,List.all_eq_true]at hm |-;refine⟨fun b hb=>?_,zG3 h.2.2.2 hm.2⟩;obtain⟨b',hb',h2⟩:=h.2.2.2.mem b hb;exact zTR (hm.1 b' hb') ⟨h.1,h.2.1,h.2.2.1⟩ h2
def opsF (X:Ctr) (Γ:Env) (ops:Array Oper) (Fin:List Tr->Prop):List Tr->Nat->List Oper->St->(St->Prop)->Prop
 | tr,_,[],S,K=>Fin tr/\K S
 | tr,i,o::os,S,K=>(opG Γ ops o).wpD X [] S fun R ws=>opsF X Γ ops Fin (tr++[⟨i,R,ws.map (·.1),exOf o,mvOf o,if (exOf o).isSome then []else gOf S ws⟩]) (i+1) os (S.apply ws) K
theorem zNS {X:Ctr} {ops:Array Oper} {bef:List (List Nat)} {K:St->Prop}:∀(os:List Oper) {tr:List Tr} {i:Nat} {S:St},opsF X Γ ops (fun tr=>z2R bef tr=true) tr i os S K->opsE X Γ ops bef tr i os S K
 | [],_,_,_,h=>h
 | _::os,_,_,_,h=>A.wpD_mono h fun _ _ h=>zNS os h
theorem zHf {X:Ctr} {ops:Array Oper} {Fin:List Tr->Prop} {K:St->Prop}:∀(os:List Oper) {tr:List Tr} {i:Nat} {S:St},opsF X Γ ops Fin tr i os S K->opsL X Γ ops os S K
 | [],_,_,_,h=>h.2
 | _::os,_,_,_,h=>A.wpD_wp h fun _ _ h=>zHf os h
theorem z7M (hcs:∀e∈cs,e.Ok P) {ops:Array Oper} {Fin:List Tr->Prop} {fin:List Tr->Bool} (hfin:∀tr tr',TrLe tr' tr->fin tr=true->Fin tr') {o:Nat×List D} {ρ0:List D} {K:St->Prop} :
 ∀(os:List Oper) {i:Nat} {tr tr':List Tr} {S:List SC} {f:Fs} {d:Nat} {k:List SC->Fs->Nat->Option PE} {pe:PE} {l:List D},z7h Γ cs ops fin os i tr S f d k=some pe->Kok cs o ρ0 k K->Wf (ρ0++l) S f d->den cs pe (ρ0++l) 0 []=some o->TrLe tr' tr ->
  opsF (VX P) Γ ops Fin tr' i os (z1G (ρ0++l) S) K
 | [],i,tr,tr',S,f,d,k,pe,l,h,hk,hw,hd,ht=>by
   simp only[z7h]at h;split at h
   ·rename_i hf;exact⟨hfin _ _ ht hf,hk S f d pe l h hw hd⟩
   ·cases h
 | op::os,i,tr,tr',S,f,d,k,pe,l,h,hk,hw,hd,ht=>by
   have step:∀{R0:List Nat} {f:Fs} {pe:PE} {a:A} {m:OR},Sim P cs (ρ0++l) S m a->Wf (ρ0++l) S f d->den cs pe (ρ0++l) 0 []=some o ->
    (match m with
      | none=>none
      | some r=>zPR cs f d S r fun S' f d=>z7h Γ cs ops fin os (i+1) (tr++[⟨i,R0++r.R,r.W.map (·.1),exOf op,mvOf op,sgX op S r.W⟩]) S' f d k)=some pe ->
    a.wpD (VX P) R0 (z1G (ρ0++l) S) fun R ws=>opsF (VX P) Γ ops Fin (tr'++[⟨i,R,ws.map (·.1),exOf op,mvOf op,if (exOf op).isSome then []else gOf (z1G (ρ0++l) S) ws⟩]) (i+1) os ((z1G (ρ0++l) S).apply ws) K:=by
    intro R0 f pe a m hs hw hd h
    cases m with
    | none=>cases h
    | some r=>
      simp only at h;obtain⟨w,l',f',d',pe',h1,h2,h3,h4,rfl,h5⟩:=zPS hs h hw hd;refine h5 R0 _ fun R' hR'=>?_;rw[List.append_assoc]at h2 h3 h4;have:=z7M hcs hfin os h1 hk h2 h3 (tr':=tr'++[⟨i,R',r.W.map (·.1),exOf op,mvOf op,if (exOf op).isSome then []else gOf (z1G (ρ0++l) S) (z3L (ρ0++(l++l')) r.W)⟩]) (ht.snoc rfl rfl ⟨rfl,rfl,zVG⟩ fun s hs=>by simpa using hR' s hs);rw[h4]at this;rw[List.append_assoc,z8B];exact this
   have hlS:ltL (ρ0++l).length S=true:=by rw[hw.len]; exact hw.lt
   have hop:∀{f:Fs},zE9 (ρ0++l) f->Sim P cs (ρ0++l) S (sopA Γ cs S f d op) (opA Γ op):=by
    intro f hf;have:=Sim.opA (Γ:=Γ) hcs hlS hf (o:=op)
    rwa [hw.len]at this
   have hhole:Sim P cs (ρ0++l) S (sout Γ S op.dst (.tup .unit .u)) (out Γ op.dst (.tup .unit .unit)):=Sim.out' rfl;show(opG Γ ops op).wpD (VX P) [] _ _;unfold z7h at h;unfold opG
   cases hg:op.guard with
   | none=>
     rw[hg]at h;exact step (R0:=[]) (hop hw.facts) hw hd (by simpa using h)
   | some g=>
     obtain⟨j,want⟩:=g;rw[hg]at h;simp only at h |-
     cases hs:(ops[j]?).bind (·.dst)with
     | none=>rw[hs]at h; cases h
     | some s=>
       rw[hs]at h;simp only at h |-;simp only[A.wpD];rw[z13];generalize hsc:sget S s=c at h;obtain⟨av,ver⟩:=c;have hlc:=z9j hw.lt s;rw[hsc]at hlc;simp only[SC.conc]
       cases av with
       | val ty x=>
         cases ty with
         | bool=>
           simp only[SV.conc]at h |-
           cases hk':zGz f x with
           | some b=>
             rw[hk']at h;simp only at h;have hb:=z9w hw.facts hk';rw[hb];by_cases hbw:b=want
             ·subst hbw;simp only[BEq.rfl,if_true]at h |-;exact step (R0:=[s]) (hop hw.facts) hw hd h
             ·rw[if_neg (by simpa using hbw)]at h;rw[if_neg hbw];exact step (R0:=[s]) hhole hw hd h
           | none=>
             rw[hk']at h;simp only at h;split at h
             case isFalse=>cases h
             rename_i hlx;simp only[Option.bind_eq_some_iff,Option.map_eq_some_iff]at h;obtain⟨p,hp,q,hq,rfl⟩:=h;simp only[den]at hd;have hw':∀b,(x.den (ρ0++l)).b=b->Wf (ρ0++l) S ((x,b)::f) d:=by
              intro b hb;refine⟨hw.len,hw.lt,?_,?_⟩
              ·intro y c hm;simp only[List.mem_cons,Prod.mk.injEq]at hm;rcases hm with ⟨rfl,rfl⟩ | hm
               ·exact hb
               ·exact hw.facts y c hm
              ·have:=hw.flt;simp only[ltF,List.all_cons,Bool.and_eq_true]at this |-;exact⟨hlx,this⟩
             cases hx:(x.den (ρ0++l)).b with
             | true=>
               rw[hx]at hd;simp only[if_true]at hd;have hw2:=hw' true hx
               cases want with
               | true=>
                 simp only[if_true]at hp |-;exact step (R0:=[s]) (hop hw2.facts) hw2 hd hp
               | false=>
                 simp only[Bool.false_eq_true,if_false]at hp;rw[if_neg (by simp)];exact step (R0:=[s]) hhole hw2 hd hp
             | false=>
               rw[hx]at hd;simp only[Bool.false_eq_true,if_false]at hd;have hw2:=hw' false hx
               cases want with
               | true=>
                 simp only[if_true]at hq;rw[if_neg (by simp)];exact step (R0:=[s]) hhole hw2 hd hq
               | false=>
                 simp only[Bool.false_eq_true,if_false]at hq;rw[if_pos rfl];exact step (R0:=[s]) (hop hw2.facts) hw2 hd hq
         | _=>cases h
       | tup ty x=>
         cases ty with
         | unit=>
           simp only[SV.conc]at h |-;exact step (R0:=[s]) hhole hw hd h
         | _=>cases h
       | _=>cases h
end
end
end Go.Own
namespace Go.Own
variable [Glb]
noncomputable section
open Go
def SCap.beq:SCap->SCap->Bool
 | .val t x,.val u y=>decide (t=u)&&x.beq y
 | .ptr r v p,.ptr r' v' p'=>Nat.beq r r'&&(decide (v=v')&&z0d.beq p p')
 | _,_=>false
def zCc:List SCap->List SCap->Bool
 | [],[]=>true
 | a::l,b::m=>a.beq b&&zCc l m
 | _,_=>false
def SV.beq:SV->SV->Bool
 | .undef,.undef=>true
 | .nil,.nil=>true
 | .val t x,.val u y=>decide (t=u)&&x.beq y
 | .tup t x,.tup u y=>decide (t=u)&&x.beq y
 | .box t x,.box u y=>decide (t=u)&&x.beq y
 | .ref r v p t x,.ref r' v' p' t' x'=>Nat.beq r r'&&(decide (v=v')&&(z0d.beq p p'&&(decide (t=t')&&x.beq x')))
 | .win r v p e lo n,.win r' v' p' e' lo' n'=>Nat.beq r r'&&(decide (v=v')&&(z0d.beq p p'&&(decide (e=e')&&(lo.beq lo'&&n.beq n'))))
 | .ptr r v p,.ptr r' v' p'=>Nat.beq r r'&&(decide (v=v')&&z0d.beq p p')
 | .clo f l,.clo g m=>decide (f=g)&&zCc l m
 | .bref t x r v p,.bref t' x' r' v' p'=>Nat.beq r r'&&(decide (v=v')&&(z0d.beq p p'&&(decide (t=t')&&x.beq x')))
 | _,_=>false
def SC.beq (a b:SC):Bool:=decide (a.v=b.v)&&a.av.beq b.av
theorem SCap.eq_of_beq {a b:SCap} (h:a.beq b=true):a=b:=by
 cases a <;> cases b <;> simp[SCap.beq]at h
 ·rw[h.1,X.eq_of_beq h.2]
 ·rw[h.1,h.2.1,z0d.eq_of_beq h.2.2]
theorem zJr:∀{l m:List SCap},zCc l m=true->l=m
 | [],[],_=>rfl
 | [],_::_,h=>by simp[zCc]at h
 | _::_,[],h=>by simp[zCc]at h
 | a::l,b::m,h=>by simp[zCc]at h; rw[SCap.eq_of_beq h.1,zJr h.2]
theorem SV.eq_of_beq {a b:SV} (h:a.beq b=true):a=b:=by
 cases a <;> cases b <;> simp[SV.beq]at h
 ·rfl
 ·rfl
 ·rw[h.1,X.eq_of_beq h.2]
 ·rw[h.1,X.eq_of_beq h.2]
 ·rw[h.1,X.eq_of_beq h.2]
 ·rw[h.1,h.2.1,z0d.eq_of_beq h.2.2.1,h.2.2.2.1,X.eq_of_beq h.2.2.2.2]
 ·rw[h.1,h.2.1,z0d.eq_of_beq h.2.2.1,h.2.2.2.1,X.eq_of_beq h.2.2.2.2.1,X.eq_of_beq h.2.2.2.2.2]
 ·rw[h.1,h.2.1,z0d.eq_of_beq h.2.2]
 ·rw[h.1,zJr h.2]
 ·rw[h.1,h.2.1,z0d.eq_of_beq h.2.2.1,h.2.2.2.1,X.eq_of_beq h.2.2.2.2]
theorem SC.eq_of_beq {a b:SC} (h:a.beq b=true):a=b:=by
 obtain⟨a,v⟩:=a; obtain⟨b,w⟩:=b
 simp[SC.beq]at h
 rw[h.1,SV.eq_of_beq h.2]
def SCap.roots:SCap->List Nat
 | .ptr r _ _=>[r]
 | _=>[]
def SV.roots:SV->List Nat
 | .ref r ..=>[r]
 | .win r ..=>[r]
 | .ptr r ..=>[r]
 | .bref _ _ r _ _=>[r]
 | .clo _ l=>l.flatMap SCap.roots
 | _=>[]
theorem SV.roots_conc (ρ:List D) (a:SV):(a.conc ρ).roots=a.roots:=by
 cases a <;> simp[SV.conc,SV.roots,List.flatMap_map]
 congr 1
 funext c
 cases c <;> rfl
structure Plan where
 keep:List Nat
 pass:List (Nat×Nat×T)
 lean:List Nat
inductive Hint where
 | join (es:List (Nat×Plan))
 | loop (h:Plan) (es:List (Nat×Plan))
 | frz (l:List Nat)
def zVa:List (Nat×Hint)->List Nat
 | []=>[]
 | (_,.frz l)::_=>l
 | _::hs=>zVa hs
def mkSV (k:Nat) (t:T) (x:X):SV:=if Nat.beq k 0 then .val t x else if Nat.beq k 1 then .tup t x else .box t x
def zUa:T->Bool
 | .lst true _=>true
 | _=>false
theorem zPB {t:T} (h:zUa t=true):∃e,t=.lst true e:=by
 cases t with
 | lst o e=>cases o with
   | true=>exact⟨e,rfl⟩
   | false=>cases h
 | _=>cases h
def Fit (a:SV) (k:Nat) (t:T) (x:X):Prop:=a=mkSV k t x\/(a=.nil/\k=0/\(∃e,t=.lst true e)/\x=.nil)
def z7G:List (Nat×Nat×T)->List SC->Option (List X)
 | [],_=>some []
 | (s,k,t)::ps,S=>match (sget S s).av with
   | .val u x=>if Nat.beq k 0&&decide (u=t)then(z7G ps S).map (x :: ·)else none
   | .tup u x=>if Nat.beq k 1&&decide (u=t)then(z7G ps S).map (x :: ·)else none
   | .box u x=>if Nat.beq k 2&&decide (u=t)then(z7G ps S).map (x :: ·)else none
   | .nil=>if Nat.beq k 0&&zUa t then(z7G ps S).map (X.nil :: ·)else none
   | _=>none
def zND (keep:List Nat) (S0 S:List SC):Bool:=keep.all fun s=>(sget S s).beq (sget S0 s)&&(sget S0 s).av.roots.all (inN keep)
def z88:List (Nat×Nat×T)->Nat->List SC->List SC
 | [],_,l=>l
 | (s,k,t)::ps,i,l=>z88 ps (i+1) (sset l s ⟨mkSV k t (.v i),⟨0,0,0⟩⟩)
def zDo:List Nat->List SC->List SC->List SC
 | [],_,l=>l
 | s::ks,S0,l=>zDo ks S0 (sset l s (sget S0 s))
def SV.reset:SV->SV
 | .ref r _ p t x=>.ref r ⟨0,0,0⟩ p t x
 | .bref t x r _ p=>.bref t x r ⟨0,0,0⟩ p
 | .win r _ p e lo n=>.win r ⟨0,0,0⟩ p e lo n
 | .ptr r _ p=>.ptr r ⟨0,0,0⟩ p
 | _=>.undef
def zIK:List Nat->List SC->List SC->List SC
 | [],_,l=>l
 | s::ks,S0,l=>zIK ks S0 (sset l s ⟨(sget S0 s).av.reset,⟨0,0,0⟩⟩)
def z5Z (p:Plan) (S0:List SC) (d:Nat):List SC:=zIK p.lean S0 (zDo p.keep S0 (z88 p.pass d []))
def zR0 (p:Plan) (S:List SC) (r:Nat) (l:Bool):Bool:=l&&(!inN p.keep r&&(!inN p.lean r&&((sget S r).root.isSome&&(sget (z88 p.pass 0 []) r).root.isSome)))
def zSQ (p:Plan) (S:List SC):SV->SV->Bool
 | .ref r _ q t x,.ref r' v q' t' x'=>Nat.beq r' r&&(z0d.beq q' q&&(decide (t'=t)&&(x'.beq x&&zR0 p S r (z1k v (sget S r).v (z2G q)))))
 | .bref t x r _ q,.bref t' x' r' v q'=>Nat.beq r' r&&(z0d.beq q' q&&(decide (t'=t)&&(x'.beq x&&zR0 p S r (z1k v (sget S r).v (z2G q)))))
 | .win r _ q e lo n,.win r' v q' e' lo' n'=>Nat.beq r' r&&(z0d.beq q' q&&(decide (e'=e)&&(lo'.beq lo&&(n'.beq n&&zR0 p S r (z1k v (sget S r).v (z2G q))))))
 | .ptr r _ q,.ptr r' v q'=>Nat.beq r' r&&(z0d.beq q' q&&zR0 p S r (z6R v (sget S r).v (z2G q)))
 | _,_=>false
def zQ5 (p:Plan) (S0 S:List SC):Bool:=p.lean.all fun s=>!inN p.keep s&&zSQ p S (sget S0 s).av (sget S s).av
theorem z73:∀(l:List SC) (s s':Nat) (c:SC),sget (sset l s c) s'=if s'=s then c else sget l s'
 | [],0,0,c=>by simp[sset,sget]
 | [],0,s'+1,c=>by simp[sset,sget]
 | [],s+1,0,c=>by simp[sset,sget]
 | [],s+1,s'+1,c=>by simp[sset,sget,z73 [] s s' c]
 | x::xs,0,0,c=>by simp[sset,sget]
 | x::xs,0,s'+1,c=>by simp[sset,sget]
 | x::xs,s+1,0,c=>by simp[sset,sget]
 | x::xs,s+1,s'+1,c=>by simp[sset,sget,z73 xs s s' c]
theorem z72:∀(ks:List Nat) (S0 l:List SC) (s:Nat),sget (zDo ks S0 l) s=if s∈ks then sget S0 s else sget l s
 | [],_,_,_=>by simp[zDo]
 | a::ks,S0,l,s=>by
   rw[zDo,z72 ks S0,z73];by_cases h:s∈ks
   ·simp[h]
   ·by_cases h2:s=a
    ·subst h2; simp[h]
    ·simp[h,h2]
theorem z9k:∀(ks:List Nat) (S0 l:List SC) (s:Nat),sget (zIK ks S0 l) s=if s∈ks then⟨(sget S0 s).av.reset,⟨0,0,0⟩⟩else sget l s
 | [],_,_,_=>by simp[zIK]
 | a::ks,S0,l,s=>by
   rw[zIK,z9k ks S0,z73];by_cases h:s∈ks
   ·simp[h]
   ·by_cases h2:s=a
    ·subst h2; simp[h]
    ·simp[h,h2]
theorem zNq:∀(ps:List (Nat×Nat×T)) (i:Nat) (l:List SC) (r:Nat),(sget l r).v=⟨0,0,0⟩->(sget (z88 ps i l) r).v=⟨0,0,0⟩
 | [],_,_,_,h=>h
 | (s,k,t)::ps,i,l,r,h=>by
   refine zNq ps (i+1) _ r ?_;rw[z73];by_cases hs:r=s
   ·rw[if_pos hs]
   ·rw[if_neg hs]; exact h
theorem SV.reset_lt {a:SV} {n:Nat} (h:a.lt n=true):a.reset.lt n=true:=by
 cases a <;> first | rfl | exact h
theorem zAN {r:Nat}:∀(ps:List (Nat×Nat×T)) (i j:Nat) (l l':List SC),((sget l r).root.isSome=true->(sget l' r).root.isSome=true)->(sget (z88 ps i l) r).root.isSome=true->(sget (z88 ps j l') r).root.isSome=true
 | [],_,_,_,_,h,h1=>h h1
 | (s,k,t)::ps,i,j,l,l',h,h1=>by
   refine zAN ps (i+1) (j+1) _ _ ?_ h1;rw[z73,z73];by_cases hs:r=s
   ·rw[if_pos hs,if_pos hs];unfold mkSV;intro _;split
    ·rfl
    ·split <;> rfl
   ·rw[if_neg hs,if_neg hs]; exact h
def zRP (ρL ρc:List D) (S l:List SC) (s:Nat):Prop:=
 sget l s=SC.nul\/∃k t n x,(sget l s).av=mkSV k t (.v n)/\Fit (sget S s).av k t x/\(X.v n).den ρc=x.den ρL
theorem z9Q (k:Nat) (t:T) (x:X) (ρ:List D):(mkSV k t x).conc ρ=if Nat.beq k 0 then .val t (x.den ρ)else if Nat.beq k 1 then .tup t (x.den ρ)else .box t (x.den ρ):=by
 unfold mkSV; split <;> (try split) <;> rfl
theorem zR6 (k:Nat) (t:T) (x:X):(mkSV k t x).roots=[]:=by
 unfold mkSV; split <;> (try split) <;> rfl
theorem zE6 {s k:Nat} {t:T} {ps:List (Nat×Nat×T)} {S:List SC} {xs:List X} (h:z7G ((s,k,t)::ps) S=some xs) :
 ∃x ys,xs=x::ys/\z7G ps S=some ys/\Fit (sget S s).av k t x:=by
 unfold z7G at h
 split at h
 ·rename_i u x hav;split at h
  ·rename_i hb;simp only[Bool.and_eq_true,decide_eq_true_eq]at hb;simp only[Option.map_eq_some_iff]at h;obtain⟨ys,h1,rfl⟩:=h;exact⟨x,ys,rfl,h1,.inl (by rw[hav,hb.2]; simp[mkSV,hb.1])⟩
  ·cases h
 ·rename_i u x hav;split at h
  ·rename_i hb;simp only[Bool.and_eq_true,decide_eq_true_eq]at hb;simp only[Option.map_eq_some_iff]at h;obtain⟨ys,h1,rfl⟩:=h;refine⟨x,ys,rfl,h1,.inl ?_⟩;have:=Nat.eq_of_beq_eq_true hb.1;subst this;rw[hav,hb.2]; rfl
  ·cases h
 ·rename_i u x hav;split at h
  ·rename_i hb;simp only[Bool.and_eq_true,decide_eq_true_eq]at hb;simp only[Option.map_eq_some_iff]at h;obtain⟨ys,h1,rfl⟩:=h;refine⟨x,ys,rfl,h1,.inl ?_⟩;have:=Nat.eq_of_beq_eq_true hb.1;subst this;rw[hav,hb.2]; rfl
  ·cases h
 ·rename_i hav;split at h
  ·rename_i hb;simp only[Bool.and_eq_true]at hb;simp only[Option.map_eq_some_iff]at h;obtain⟨ys,h1,rfl⟩:=h;exact⟨_,ys,rfl,h1,.inr ⟨hav,Nat.eq_of_beq_eq_true hb.1,zPB hb.2,rfl⟩⟩
  ·cases h
 ·cases h
theorem zB3:∀{ps:List (Nat×Nat×T)} {S:List SC} {xs:List X},z7G ps S=some xs->xs.length=ps.length
 | [],_,_,h=>by cases h; rfl
 | (s,k,t)::ps,S,xs,h=>by
   obtain⟨x,ys,rfl,h1,_⟩:=zE6 h;simp[zB3 h1]
theorem zKF {ρL ρc:List D} {S:List SC}:∀{ps:List (Nat×Nat×T)} {i:Nat} {l:List SC} {xs:List X},z7G ps S=some xs->(∀j x,xs[j]? = some x->(X.v (i+j)).den ρc=x.den ρL)->(∀s,zRP ρL ρc S l s) ->
 ∀s,zRP ρL ρc S (z88 ps i l) s
 | [],i,l,xs,_,_,hl,s=>hl s
 | (a,k,t)::ps,i,l,xs,h,hx,hl,s=>by
   obtain⟨x,ys,rfl,h1,h2⟩:=zE6 h;refine zKF (i:=i+1) h1 (fun j y hy=>?_) (fun s=>?_) s
   ·have:=hx (j+1) y (by simpa using hy)
    rwa [show i+1+j=i+(j+1) by omega]
   ·unfold zRP;rw[z73];by_cases hs:s=a
    ·subst hs;rw[if_pos rfl];exact .inr ⟨k,t,i,x,rfl,h2,by simpa using hx 0 x (by simp)⟩
    ·rw[if_neg hs]; exact hl s
theorem zGy {keep:List Nat} {S0 S:List SC} (h:zND keep S0 S=true) {s:Nat} (hs:s∈keep):sget S s=sget S0 s/\∀r∈(sget S0 s).av.roots,r∈keep:=by
 simp only[zND,List.all_eq_true,Bool.and_eq_true]at h
 obtain⟨h1,h2⟩:=h s hs
 exact⟨SC.eq_of_beq h1,fun r hr=>z5V.1 (h2 r hr)⟩
theorem zMP {ρ l:List D} {p:Plan} {S0 S:List SC} {xs:List X} {d:Nat} (hd:ρ.length=d) (hS0:ltL d S0=true) (hx:z7G p.pass S=some xs) (hk:zND p.keep S0 S=true) (hln:zQ5 p S0 S=true) :
 Weak (z1G (ρ++l) S) (z1G (ρ++xs.map (X.den (ρ++l))) (z5Z p S0 d)):=by
 have hpass:=zKF (ρL:=ρ++l) (ρc:=ρ++xs.map (X.den (ρ++l))) (S:=S) (i:=d) (l:=[]) hx (by
  intro j x hj;have hlt:=(List.getElem?_eq_some_iff.1 hj).1;subst hd;simp only[X.den,List.getD_eq_getElem?_getD];rw[List.getElem?_append_right (by omega)];simp[hj]) (fun s=>.inl rfl)
 have base:∀s,s∉p.lean->sget (z5Z p S0 d) s=sget (zDo p.keep S0 (z88 p.pass d [])) s:=fun s hs=>by
  unfold z5Z; rw[z9k,if_neg hs]
 have rootOf:∀r b,zR0 p S r b=true->b=true/\(z1G (ρ++xs.map (X.den (ρ++l))) (z5Z p S0 d) r).root=(z1G (ρ++l) S r).root/\(z1G (ρ++xs.map (X.den (ρ++l))) (z5Z p S0 d) r).av≠.undef/\(z1G (ρ++xs.map (X.den (ρ++l))) (z5Z p S0 d) r).v=⟨0,0,0⟩:=by
  intro r b h;unfold zR0 at h;simp only[Bool.and_eq_true,Bool.not_eq_true',<- Bool.not_eq_true,z5V]at h;obtain⟨h1,h2,h3,h4,h5⟩:=h;refine⟨h1,?_⟩;rw[z13,z13,base r h3,z72,if_neg h2];have h6:=zAN p.pass 0 d [] [] id h5;rcases hpass r with h | ⟨k,t,n,x,g1,g2,g3⟩
  ·rw[h]at h6; cases h6
  ·rcases g2 with g2 | ⟨g2,_⟩
   ·have e:(SC.conc (ρ++xs.map (X.den (ρ++l))) (sget (z88 p.pass d []) r)).av=(SC.conc (ρ++l) (sget S r)).av:=by
     show(sget _ r).av.conc _=(sget S r).av.conc _;rw[g1,g2,z9Q,z9Q,g3]
    refine⟨?_,?_,zNq p.pass d [] r rfl⟩
    ·unfold Cl.root;rw[e]
    ·rw[e];intro hu;have:(SC.conc (ρ++l) (sget S r)).root=none:=by unfold Cl.root; rw[hu]
     rw[SC.root_conc]at this;rw[Option.map_eq_none_iff]at this;rw[this]at h4; cases h4
   ·have:(sget S r).root=none:=by unfold SC.root; rw[g2]
    rw[this]at h4; cases h4
 simp only[zQ5,List.all_eq_true,Bool.and_eq_true,Bool.not_eq_true',<- Bool.not_eq_true,z5V]at hln
 have apartK:∀s,s∈p.keep->s∉p.lean:=fun s h1 h2=>(hln s h2).1 h1
 have kept:∀s,s∈p.keep->s∉p.lean->z1G (ρ++xs.map (X.den (ρ++l))) (z5Z p S0 d) s=z1G (ρ++l) S s:=by
  intro s hs hsl;rw[z13,z13,base s hsl];rw[z72,if_pos hs,(zGy hk hs).1];have hlt:=z9j hS0 s;rw[<- hd]at hlt;rw[SC.conc_append hlt,SC.conc_append hlt]
 intro s
 by_cases hsl:s∈p.lean
 ·refine .inr (.inr (.inr ?_));have h1:=(hln s hsl).2;have hlt:=z9j hS0 s;rw[<- hd]at hlt;have e1:(z1G (ρ++xs.map (X.den (ρ++l))) (z5Z p S0 d) s).av=((sget S0 s).av.reset).conc (ρ++l):=by
   rw[z13];unfold z5Z;rw[z9k,if_pos hsl];show SV.conc _ _=_;have:((sget S0 s).av.reset).lt ρ.length=true:=SV.reset_lt hlt;rw[SV.conc_append this,SV.conc_append this]
  have e2:(z1G (ρ++l) S s).av=(sget S s).av.conc (ρ++l):=by rw[z13]; rfl
  rw[e1,e2];have hv:∀r,(z1G (ρ++l) S r).v=(sget S r).v:=fun r=>by rw[z13]; rfl
  generalize (sget S0 s).av=a at h1;generalize (sget S s).av=b at h1
  cases a <;> cases b <;> simp only[zSQ,Bool.and_eq_true,decide_eq_true_eq,Bool.false_eq_true]at h1
  case ref.ref=>
   obtain⟨k1,k2,k3,k4,k5⟩:=h1;have k1:=Nat.eq_of_beq_eq_true k1;obtain⟨m1,m2,m3,m4⟩:=rootOf _ _ k5;subst k1 k3;refine⟨_,⟨rfl,rfl,?_,rfl,?_,?_,?_⟩,m2,m3⟩
   ·rw[z0d.eq_of_beq k2]
   ·rw[X.eq_of_beq k4]
   ·rw[m4]
   ·rw[hv,z0o,z0d.eq_of_beq k2]; exact z0n m1
  case bref.bref=>
   obtain⟨k1,k2,k3,k4,k5⟩:=h1;have k1:=Nat.eq_of_beq_eq_true k1;obtain⟨m1,m2,m3,m4⟩:=rootOf _ _ k5;subst k1 k3;refine⟨_,⟨rfl,rfl,?_,rfl,?_,?_,?_⟩,m2,m3⟩
   ·rw[z0d.eq_of_beq k2]
   ·rw[X.eq_of_beq k4]
   ·rw[m4]
   ·rw[hv,z0o,z0d.eq_of_beq k2]; exact z0n m1
  case win.win=>
   obtain⟨k1,k2,k3,k4,k6,k5⟩:=h1;have k1:=Nat.eq_of_beq_eq_true k1;obtain⟨m1,m2,m3,m4⟩:=rootOf _ _ k5;subst k1 k3;refine⟨_,⟨rfl,rfl,?_,rfl,?_,?_,?_,?_⟩,m2,m3⟩
   ·rw[z0d.eq_of_beq k2]
   ·rw[X.eq_of_beq k4]
   ·rw[X.eq_of_beq k6]
   ·rw[m4]
   ·rw[hv,z0o,z0d.eq_of_beq k2]; exact z0n m1
  case ptr.ptr=>
   obtain⟨k1,k2,k5⟩:=h1;have k1:=Nat.eq_of_beq_eq_true k1;obtain⟨m1,m2,m3,m4⟩:=rootOf _ _ k5;subst k1;refine⟨_,⟨rfl,rfl,?_,?_,?_⟩,m2,m3⟩
   ·rw[z0d.eq_of_beq k2]
   ·rw[m4]
   ·rw[hv,z0o,z0d.eq_of_beq k2]; exact z32 m1
 by_cases hs:s∈p.keep
 ·have h2:=(zGy hk hs).2;have:(z1G (ρ++xs.map (X.den (ρ++l))) (z5Z p S0 d) s).av.roots=(sget S0 s).av.roots:=by
   rw[z13,base s hsl];rw[z72,if_pos hs];exact SV.roots_conc _ _
  refine .inr (.inl ⟨by rw[kept s hs hsl],fun r hr=>?_⟩);rw[this]at hr;exact kept r (h2 r hr) (apartK r (h2 r hr))
 ·have hg:sget (z5Z p S0 d) s=sget (z88 p.pass d []) s:=by
   rw[base s hsl,z72,if_neg hs]
  rw[z13,z13,hg];rcases hpass s with h | ⟨k,t,n,x,h1,h2,h3⟩
  ·rw[h]; exact .inl rfl
  ·right;rcases h2 with h2 | ⟨h2,rfl,⟨e,rfl⟩,rfl⟩
   ·left;constructor
    ·show(sget _ s).av.conc _=(sget S s).av.conc _;rw[h1,h2,z9Q,z9Q,h3]
    ·intro r hr;change r∈((sget _ s).av.conc _).roots at hr;rw[SV.roots_conc,h1,zR6]at hr
     cases hr
   ·right; left;refine⟨?_,e,?_⟩
    ·show(sget S s).av.conc _=_;rw[h2]; rfl
    ·show(sget _ s).av.conc _=_;rw[h1,z9Q,h3]; rfl
theorem Weak.refl (S:St):Weak S S:=fun _=>.inr (.inl ⟨rfl,fun _ _=>rfl⟩)
def zRl:Exit->Option Nat
 | .normal=>some 0
 | .ret=>some 1
 | .exit id=>some (id+2)
 | _=>none
def zFu (n:Nat):List (Nat×Plan)->Nat->Option (Nat×Plan)
 | [],_=>none
 | (m,p)::es,i=>if Nat.beq m n then some (i,p)else zFu n es (i+1)
def zPM (S:List SC) (s k:Nat) (t:T):List SC:=
 match (sget S s).av with
 | .ref r v p u x=>match (sget S r).root with
   | some (tr,xr,_)=>if Nat.beq k 0&&(decide (u=t)&&(decide (sAt tr p=t)&&(zIG tr p&&(!Nat.beq s r&&z1k v (sget S r).v 0))))then
      sset (sset S r ((sget S r).setRoot (zBD tr p t.moved) xr (sget S r).v.head)) s ⟨.val t (smix t x (getX xr p)),(sget S s).v.kill⟩else S
   | none=>S
 | _=>S
def z6c:List (Nat×Nat×T)->List SC->List SC
 | [],S=>S
 | (s,k,t)::ps,S=>z6c ps (zPM S s k t)
theorem zRE {Γ:Env} {E:Entry} {ρ:List D} (S:List SC) (s k:Nat) (t:T):Wk Γ E (z1G ρ S) (z1G ρ (zPM S s k t)):=by
 unfold zPM
 split
 case h_2=>exact Wk.refl _
 rename_i r v p u x hs
 split
 case h_2=>exact Wk.refl _
 rename_i tr xr bx hr
 split
 case isFalse=>exact Wk.refl _
 rename_i hb
 simp only[Bool.and_eq_true,decide_eq_true_eq,Bool.not_eq_true']at hb
 obtain⟨_,rfl,hat,hfl,hne,hl⟩:=hb
 have hS:(z1G ρ S s).av=.ref r v (z0d.conc ρ p) u (x.den ρ):=by rw[z13]; simp only[SC.conc,hs,SV.conc]
 have hR:(z1G ρ S r).root=some (tr,xr.den ρ,bx):=by rw[z13,SC.root_conc,hr]; rfl
 have hv:(z1G ρ S r).v=(sget S r).v:=by rw[z13]; rfl
 have hv2:(z1G ρ S s).v=(sget S s).v:=by rw[z13]; rfl
 have:=zT6 (Γ:=Γ) (E:=E) hS hR (z3Q hne) (by rw[hv]; exact z0n hl) (by rw[z6t]; exact hfl) (by rw[z1R]; exact hat)
 rw[hv,hv2,z70,<- z1i,<- zA1,z13,<- SC.setRoot_conc]at this
 rw[<- z7S,<- z7S]
 exact this
theorem z9h {Γ:Env} {E:Entry} {ρ:List D}:∀(ps:List (Nat×Nat×T)) (S:List SC),Wk Γ E (z1G ρ S) (z1G ρ (z6c ps S))
 | [],S=>Wk.refl _
 | (s,k,t)::ps,S=>(zRE S s k t).trans (z9h ps _)
def zPN (S:List SC) (s:Nat):List SC:=
 match (sget S s).av with
 | .bref t x r v p=>match (sget S r).root with
   | some (tr,xr,_)=>if decide (sAt tr p=t)&&(zIG tr p&&(!Nat.beq s r&&z1k v (sget S r).v 0))then
      sset (sset S r ((sget S r).setRoot (zBD tr p t.moved) xr (sget S r).v.head)) s ⟨.box t (smix t x (getX xr p)),(sget S s).v.kill⟩else S
   | none=>S
 | _=>S
def z8s:List ResultVar->List SC->List SC
 | [],S=>S
 | .cell a _::rs,S=>z8s rs (zPN S a)
 | .tmp _::rs,S=>z8s rs S
theorem zPO {Γ:Env} {E:Entry} {ρ:List D} (S:List SC) (s:Nat):Wk Γ E (z1G ρ S) (z1G ρ (zPN S s)):=by
 unfold zPN
 split
 case h_2=>exact Wk.refl _
 rename_i t x r v p hs
 split
 case h_2=>exact Wk.refl _
 rename_i tr xr bx hr
 split
 case isFalse=>exact Wk.refl _
 rename_i hb
 simp only[Bool.and_eq_true,decide_eq_true_eq,Bool.not_eq_true']at hb
 obtain⟨hat,hfl,hne,hl⟩:=hb
 have hS:(z1G ρ S s).av=.bref t (x.den ρ) r v (z0d.conc ρ p):=by rw[z13]; simp only[SC.conc,hs,SV.conc]
 have hR:(z1G ρ S r).root=some (tr,xr.den ρ,bx):=by rw[z13,SC.root_conc,hr]; rfl
 have hv:(z1G ρ S r).v=(sget S r).v:=by rw[z13]; rfl
 have hv2:(z1G ρ S s).v=(sget S s).v:=by rw[z13]; rfl
 have:=zRF (Γ:=Γ) (E:=E) hS hR (z3Q hne) (by rw[hv]; exact z0n hl) (by rw[z6t]; exact hfl) (by rw[z1R]; exact hat)
 rw[hv,hv2,z70,<- z1i,<- zA1,z13,<- SC.setRoot_conc]at this
 rw[<- z7S,<- z7S]
 exact this
theorem zBE {Γ:Env} {E:Entry} {ρ:List D}:∀(rs:List ResultVar) (S:List SC),Wk Γ E (z1G ρ S) (z1G ρ (z8s rs S))
 | [],S=>Wk.refl _
 | .cell a _::rs,S=>(zPO S a).trans (zBE rs _)
 | .tmp _::rs,S=>zBE rs S
def zP2 (es:List (Nat×Plan)) (i0:Nat) (S0:List SC) (e:Exit) (S:List SC):Option PE:=
 match zRl e with
 | none=>none
 | some n=>match zFu n es 0 with
   | none=>none
   | some (i,p)=>if zND p.keep S0 (z6c p.pass S)&&zQ5 p S0 (z6c p.pass S)then(z7G p.pass (z6c p.pass S)).map (.out (i0+i))else none
def zPo:Nat->Exit
 | 0=>.normal
 | 1=>.ret
 | n+2=>.exit n
theorem zRm {e:Exit} {n:Nat} (h:zRl e=some n):zPo n=e:=by
 cases e <;> simp[zRl]at h <;> subst h <;> rfl
def zMS (S0:List SC) (f:Fs) (d:Nat) (k:Exit->List SC->Fs->Nat->Option PE):List (Nat×Plan)->Option PE
 | []=>some .bot
 | (n,p)::es=>if ltL (d+p.pass.length) (z5Z p S0 d)then(k (zPo n) (z5Z p S0 d) f (d+p.pass.length)).bind fun a=>(zMS S0 f d k es).map (.alt (.take p.pass.length a))else none
theorem zBQ {n:Nat}:∀{es:List (Nat×Plan)} {k i:Nat} {p:Plan},zFu n es k=some (i,p)->k<=i/\es[i-k]? = some (n,p)
 | [],_,_,_,h=>by cases h
 | (m,q)::es,k,i,p,h=>by
   unfold zFu at h;split at h
   ·rename_i hb;simp only[Option.some.injEq,Prod.mk.injEq]at h;obtain⟨rfl,rfl⟩:=h;have:=Nat.eq_of_beq_eq_true hb;subst this;exact⟨Nat.le_refl _,by simp⟩
   ·obtain⟨h1,h2⟩:=zBQ h;refine⟨by omega,?_⟩;rw[show i-k=(i-(k+1))+1 by omega];simpa using h2
theorem zCd {cs:List Ent} {S0:List SC} {f:Fs} {d:Nat} {k:Exit->List SC->Fs->Nat->Option PE} {ρ:List D} {o}:∀{es:List (Nat×Plan)} {ks:PE} {i:Nat} {n:Nat} {p:Plan} {l:List D},zMS S0 f d k es=some ks->es[i]? = some (n,p)->den cs ks ρ i l=some o->l.length=p.pass.length ->
 ltL (d+p.pass.length) (z5Z p S0 d)=true/\∃pe,k (zPo n) (z5Z p S0 d) f (d+p.pass.length)=some pe/\den cs pe (ρ++l) 0 []=some o
 | [],_,_,_,_,_,_,h,_,_=>by simp at h
 | (m,q)::es,ks,i,n,p,l,h,hi,hd,hll=>by
   unfold zMS at h;split at h
   case isFalse=>cases h
   rename_i hlt;simp only[Option.bind_eq_some_iff,Option.map_eq_some_iff]at h;obtain⟨a,ha,b,hb,rfl⟩:=h
   cases i with
   | zero=>
     simp only[List.getElem?_cons_zero,Option.some.injEq,Prod.mk.injEq]at hi;obtain⟨rfl,rfl⟩:=hi;simp only[den,sel2]at hd;rw[zLG l q.pass.length 0 (by omega)]at hd;exact⟨hlt,a,ha,hd⟩
   | succ i=>
     exact zCd hb (by simpa using hi) (by simpa [den,sel2]using hd) hll
def zKc (key:Nat):List (Nat×Hint)->Option Hint
 | []=>none
 | (m,h)::l=>if Nat.beq m key then some h else zKc key l
abbrev Kont:=Exit->List SC->Fs->Nat->Option PE
def zSg (ops:List Oper):Option (List Oper×Nat×TypeId×Nat×Bool):=
 match ops.reverse with
 | ⟨some s,.binOp op t (.tmp x) (.const (.slice none 0 0)) _,_,_,_,none⟩::os=>match op with
   | .eql=>some (os.reverse,s,t,x,true)
   | .neq=>some (os.reverse,s,t,x,false)
   | _=>none
 | _=>none
def nilK (Γ:Env) (s:Nat) (t:TypeId) (x:Nat) (eq:Bool) (k:List SC->Fs->Nat->Option PE):List SC->Fs->Nat->Option PE:=fun S f d=>
 match (sget S x).av with
 | .val (.lst o e) y=>if z9R Γ s&&(y.lt d&&((T.lst o e).plain&&(Γ.ty t).lsts))then
    (k (sset S s ⟨.val .bool (.b eq),(sget S s).v.kill⟩) f d).bind fun p=>(k (sset S s ⟨.val .bool (.b !eq),(sget S s).v.kill⟩) f d).map fun q=>.any y p q
   else none
 | _=>none
def sx (Γ:Env) (cs:List Ent) (hs:List (Nat×Hint)):Code->Nat->List SC->Fs->Nat->Kont->Option PE
 | .skip,_,S,f,d,k=>k .normal S f d
 | .label _,_,S,f,d,k=>k .normal S f d
 | .exit id,_,S,f,d,k=>k (.exit id) S f d
 | .ret,_,S,f,d,k=>k .ret S f d
 | .region _ ops draw,_,S,f,d,k=>
   if draw then
    if zQa .any ops then z7h Γ cs ops (z2R (ancs .any ops.toList)) ops.toList 0 [] S f d (k .normal)else none
   else match zSg ops.toList with
    | some (os,s,t,x,eq)=>z7h Γ cs ops (fun _=>true) os 0 [] S f d (nilK Γ s t x eq (k .normal))
    | none=>z7h Γ cs ops (fun _=>true) ops.toList 0 [] S f d (k .normal)
 | .seq a b,key,S,f,d,k=>
   let k':Kont:=fun e S f d=>match e with
    | .normal=>sx Γ cs hs b (2*key+1) S f d k
    | e=>k e S f d
   match zKc key hs with
   | some (.join es)=>(sx Γ cs hs a (2*key) S f d fun e S' _ _=>zP2 es 0 S e S').bind fun pa=>(zMS S f d k' es).map (.bind pa)
   | _=>sx Γ cs hs a (2*key) S f d k'
 | .cond x a b,key,S,f,d,k=>
   match x with
   | .tmp s=>match (sget S s).av with
     | .val .bool x=>match zGz f x with
       | some true=>sx Γ cs hs a (2*key) S f d k
       | some false=>sx Γ cs hs b (2*key+1) S f d k
       | none=>if x.lt d then(sx Γ cs hs a (2*key) S ((x,true)::f) d k).bind fun p=>(sx Γ cs hs b (2*key+1) S ((x,false)::f) d k).map (.ite x p)else none
     | _=>none
   | .const (.bool true)=>sx Γ cs hs a (2*key) S f d k
   | .const (.bool false)=>sx Γ cs hs b (2*key+1) S f d k
   | _=>none
 | .block id c,key,S,f,d,k=>sx Γ cs hs c (2*key) S f d fun e S f d=>match e with
    | .exit id'=>if Nat.beq id' id then k .normal S f d else k (.exit id') S f d
    | e=>k e S f d
 | .loop c,key,S,f,d,k=>
   match zKc key hs with
   | some (.loop h es)=>
     if ltL d (z6c h.pass S)&&((zND h.keep (z6c h.pass S) (z6c h.pass S)&&zQ5 h (z6c h.pass S) (z6c h.pass S))&&ltL (d+h.pass.length) (z5Z h (z6c h.pass S) d))then
      (z7G h.pass (z6c h.pass S)).bind fun xs=>(sx Γ cs hs c (2*key) (z5Z h (z6c h.pass S) d) f (d+h.pass.length) fun e S' _ _=>match e with
        | .normal=>zP2 [(0,h)] 0 (z6c h.pass S) .normal S'
        | e=>zP2 es 1 (z6c h.pass S) e S').bind fun body=>(zMS (z6c h.pass S) f d k es).map (.loop xs (.take h.pass.length body))
     else none
   | _=>none
 | _,_,_,_,_,_=>none
variable {P : Program} {Γ : Env} {E : Entry} {cs : List Ent}
theorem Wf.fact {ρ:List D} {S:List SC} {f:Fs} {d:Nat} (hw:Wf ρ S f d) {x:X} {b:Bool} (hl:x.lt d=true) (hb:(x.den ρ).b=b):Wf ρ S ((x,b)::f) d:=by
 refine⟨hw.len,hw.lt,?_,?_⟩
 ·intro y c hm;simp only[List.mem_cons,Prod.mk.injEq]at hm;rcases hm with ⟨rfl,rfl⟩ | hm
  ·exact hb
  ·exact hw.facts y c hm
 ·have:=hw.flt;simp only[ltF,List.all_cons,Bool.and_eq_true]at this |-;exact⟨hl,this⟩
def zUR (Γ:Env) (E:Entry) (Q:Exit->St->Prop):Prop:=∀e S S',Wk Γ E S S'->Q e S'->Q e S
theorem zCx {es:List (Nat×Plan)} {i0:Nat} {S0 S:List SC} {e:Exit} {pe:PE} {ρ l:List D} {o:Nat×List D} {d:Nat} (h:zP2 es i0 S0 e S=some pe) (hd:den cs pe (ρ++l) 0 []=some o) (hlen:ρ.length=d) (hS0:ltL d S0=true) :
 ∃i n p,es[i]? = some (n,p)/\zPo n=e/\o.1=i0+i/\o.2.length=p.pass.length/\Wk Γ E (z1G (ρ++l) S) (z1G (ρ++o.2) (z5Z p S0 d)):=by
 unfold zP2 at h
 split at h
 ·cases h
 ·rename_i n hn;split at h
  ·cases h
  ·rename_i i p hp;obtain⟨_,hp⟩:=zBQ hp;rw[Nat.sub_zero]at hp;split at h
   case isFalse=>cases h
   rename_i hk;simp only[Bool.and_eq_true]at hk;simp only[Option.map_eq_some_iff]at h;obtain⟨xs,hx,rfl⟩:=h;simp only[den,Option.some.injEq]at hd;subst hd;exact⟨i,n,p,hp,zRm hn,rfl,by simp[zB3 hx],(z9h _ _).trans (zMP hlen hS0 hx hk.1 hk.2).wk⟩
theorem zHg {X:Ctr} {ops:Array Oper} {K:St->Prop} {l2:List Oper}:∀(l1:List Oper) {S:St},opsL X Γ ops l1 S (fun S=>opsL X Γ ops l2 S K)->opsL X Γ ops (l1++l2) S K
 | [],_,h=>h
 | _::os,_,h=>A.wp_mono (fun _ h=>zHg os h) h
theorem zNT {X:Ctr} {ops:Array Oper} {K K':St->Prop} (hk:∀S,K S->K' S):∀(l:List Oper) {S:St},opsL X Γ ops l S K->opsL X Γ ops l S K'
 | [],_,h=>hk _ h
 | _::os,_,h=>A.wp_mono (fun _ h=>zNT hk os h) h
theorem zK2 {ops os:List Oper} {s t x eq} (h:zSg ops=some (os,s,t,x,eq)) :
 ∃last:Oper,ops=os++[last]/\last.guard=none/\∃u,last.dst=some s/\last.op=.binOp (if eq then .eql else .neq) t (.tmp x) (.const (.slice none 0 0)) u:=by
 unfold zSg at h
 split at h
 ·rename_i s' op t' x' u a b c os' hr;have hr':ops=os'.reverse++[⟨some s',.binOp op t' (.tmp x') (.const (.slice none 0 0)) u,a,b,c,none⟩]:=by
   have:=congrArg List.reverse hr;simpa using this
  split at h <;> simp only[Option.some.injEq,Prod.mk.injEq,reduceCtorEq]at h
  ·obtain⟨rfl,rfl,rfl,rfl,rfl⟩:=h;exact⟨_,hr',rfl,_,rfl,rfl⟩
  ·obtain⟨rfl,rfl,rfl,rfl,rfl⟩:=h;exact⟨_,hr',rfl,_,rfl,rfl⟩
 ·cases h
theorem zP7 {ops os:List Oper} {s t x eq} (h:zSg ops=some (os,s,t,x,eq)):∃last,ops=os++[last]:=by
 obtain⟨last,h,_⟩:=zK2 h
 exact⟨last,h⟩
theorem zR9 {ops:Array Oper} {os:List Oper} {s t x eq} (hn:zSg ops.toList=some (os,s,t,x,eq)) {k:List SC->Fs->Nat->Option PE} {ρ:List D} {l:List D} {S:List SC} {f:Fs} {d:Nat} {pe:PE} {o} {K:St->Prop}
 (h:nilK Γ s t x eq k S f d=some pe) (hw:Wf (ρ++l) S f d) (hd:den cs pe (ρ++l) 0 []=some o) (hK:Kok cs o ρ k K) :
 ∃last,ops.toList=os++[last]/\opsL (VX P) Γ ops [last] (z1G (ρ++l) S) K:=by
 obtain⟨last,hl,hg,u,hdst,hop⟩:=zK2 hn
 refine⟨last,hl,?_⟩
 unfold nilK at h
 split at h
 case h_2=>cases h
 rename_i lo e y hy
 split at h
 case isFalse=>cases h
 rename_i hb
 simp only[Bool.and_eq_true]at hb
 obtain⟨hb1,hb2,hb3,hb4⟩:=hb
 simp only[Option.bind_eq_some_iff,Option.map_eq_some_iff]at h
 obtain⟨p,hp,q,hq,rfl⟩:=h
 simp only[den]at hd
 obtain⟨hq',hp'⟩:=zUM hd
 have wf:∀b:Bool,Wf (ρ++l) (sset S s ⟨.val .bool (.b b),(sget S s).v.kill⟩) f d:=fun b=>⟨hw.len,zFw hw.lt rfl,hw.facts,hw.flt⟩
 have c1:=fun(h:(y.den (ρ++l)).l.isEmpty=true)=>hK _ _ _ _ _ hp (wf eq) (hp' h)
 have c2:=hK _ _ _ _ _ hq (wf !eq) hq'
 rw[<- z7S]at c2
 have c1':=fun(h:(y.den (ρ++l)).l.isEmpty=true)=>by have:=c1 h; rw[<- z7S]at this; exact this
 have hds:=z1F hb1
 have hav:(z1G (ρ++l) S x).av=.val (.lst lo e) (y.den (ρ++l)):=by
  rw[z13]; simp only[SC.conc,hy,SV.conc]
 have hv:(z1G (ρ++l) S s).v=(sget S s).v:=by rw[z13]; rfl
 show(opG Γ ops last).wp (VX P) _ _
 unfold opG
 rw[hg]
 simp only
 unfold opA
 rw[hop,hdst]
 have hag:(Γ.ty t).agg=false:=by
  revert hb2 hb3 hb4
  generalize Γ.ty t=T
  cases T <;> simp
 simp only[hag,Bool.false_eq_true,if_false]
 cases eq with
 | true=>
   simp only[if_true];simp only[zRA,opd,A.wp,z7T,hav,hb3,if_true,out,hb4,hv,true_and];refine⟨fun hl=>⟨⟨hds.1,hds.2,trivial⟩,?_⟩,⟨hds.1,hds.2,trivial⟩,?_⟩
   ·exact c1' (by simp[hl])
   ·exact c2
 | false=>
   simp only[Bool.false_eq_true,if_false];simp only[zRA,opd,A.wp,z7T,hav,hb3,if_true,out,hb4,hv,true_and];refine⟨fun hl=>⟨⟨hds.1,hds.2,trivial⟩,?_⟩,⟨hds.1,hds.2,trivial⟩,?_⟩
   ·exact c1' (by simp[hl])
   ·exact c2
theorem zUI (ok:EnvOk P Γ) (hcs:∀e∈cs,e.Ok P) {hs:List (Nat×Hint)}:∀(c:Code) {key:Nat} {S:List SC} {f:Fs} {d:Nat} {k:Kont} {pe:PE} {ρ:List D} {o:Nat×List D} {Q:Exit->St->Prop},
 sx Γ cs hs c key S f d k=some pe->Wf ρ S f d->den cs pe ρ 0 []=some o->zUR Γ E Q ->
 (∀e S' f' d' pe' l,k e S' f' d'=some pe'->Wf (ρ++l) S' f' d'->den cs pe' (ρ++l) 0 []=some o->Q e (z1G (ρ++l) S'))->Ex P Γ E c Q (z1G ρ S):=by
 intro c
 have nil:∀{ρ:List D},ρ++[]=ρ:=fun {ρ}=>List.append_nil ρ
 induction c with
 | skip=>
   intro key S f d k pe ρ o Q h hw hd _ hk;refine Ex.skip ?_;have:=hk .normal S f d pe [] h (by rwa [nil]) (by rwa [nil])
   rwa [nil]at this
 | label l=>
   intro key S f d k pe ρ o Q h hw hd _ hk;refine Ex.label ?_;have:=hk .normal S f d pe [] h (by rwa [nil]) (by rwa [nil])
   rwa [nil]at this
 | exit id=>
   intro key S f d k pe ρ o Q h hw hd _ hk;refine Ex.exit ?_;have:=hk (.exit id) S f d pe [] h (by rwa [nil]) (by rwa [nil])
   rwa [nil]at this
 | ret=>
   intro key S f d k pe ρ o Q h hw hd _ hk;refine Ex.ret ?_;have:=hk .ret S f d pe [] h (by rwa [nil]) (by rwa [nil])
   rwa [nil]at this
 | region id ops draw=>
   intro key S f d k pe ρ o Q h hw hd _ hk;have hK:Kok cs o ρ (k .normal) (Q .normal):=fun S' f' d' pe' l h1 h2 h3=>hk .normal S' f' d' pe' l h1 h2 h3;unfold sx at h
   cases draw with
   | true=>
     simp only[if_true]at h;split at h
     case isFalse=>cases h
     rename_i hdn;refine Ex.opsAny ok hdn ?_;have:=z7M (Γ:=Γ) (ρ0:=ρ) (l:=[]) (tr':=[]) hcs (Fin:=fun tr=>z2R (ancs .any ops.toList) tr=true) (fun tr tr' h1 h2=>zG3 h1 h2) ops.toList h hK (by rwa [nil]) (by rwa [nil]) trivial;rw[nil]at this;exact zNS _ this
   | false=>
     simp only[Bool.false_eq_true,if_false]at h;split at h
     ·rename_i os s t x eq hn;have:=z7M (Γ:=Γ) (ρ0:=ρ) (l:=[]) (tr':=[]) hcs (Fin:=fun _=>True) (K:=fun S=>∃last,ops.toList=os++[last]/\opsL (VX P) Γ ops [last] S (Q .normal)) (fun _ _ _ _=>trivial) os h ?_ (by rwa [nil]) (by rwa [nil]) trivial
      ·rw[nil]at this;refine Ex.ops ok ?_;have h2:=zHf _ this;rw[show ops.toList=os++[ops.toList.getLast?.getD default] by
        obtain⟨last,hl⟩:=zP7 hn;rw[hl]; simp]
       refine zHg os (zNT (fun S h=>?_) os h2);obtain⟨last,hl,h⟩:=h;rw[hl];simpa using h
      ·intro S' f' d' pe' l h1 h2 h3;exact zR9 hn h1 h2 h3 hK
     ·have:=z7M (Γ:=Γ) (ρ0:=ρ) (l:=[]) (tr':=[]) hcs (Fin:=fun _=>True) (fun _ _ _ _=>trivial) ops.toList h hK (by rwa [nil]) (by rwa [nil]) trivial;rw[nil]at this;exact Ex.ops ok (zHf _ this)
 | seq a b iha ihb=>
   intro key S f d k pe ρ o Q h hw hd hQ hk;have hlen:=hw.len;refine Ex.seq ?_;have hcl:zUR Γ E (zPX (Ex P Γ E b Q) Q):=by
    intro e S S' hW h
    cases e with
    | normal=>exact Ex.wk hW h
    | _=>exact hQ _ _ _ hW h
   unfold sx at h;simp only at h;have plain:sx Γ cs hs a (2*key) S f d (fun e S f d=>match e with
    | .normal=>sx Γ cs hs b (2*key+1) S f d k
    | e=>k e S f d)=some pe->Ex P Γ E a (zPX (Ex P Γ E b Q) Q) (z1G ρ S):=by
    intro h;refine iha h hw hd hcl ?_;intro e S' f' d' pe' l h1 h2 h3
    cases e with
    | normal=>
      refine ihb h1 h2 h3 hQ fun e S2 f2 d2 pe2 l2 g1 g2 g3=>?_;rw[List.append_assoc]at g2 g3 |-;exact hk e S2 f2 d2 pe2 (l++l2) g1 g2 g3
    | _=>exact hk _ S' f' d' pe' l h1 h2 h3
   split at h
   ·rename_i es hes;simp only[Option.bind_eq_some_iff,Option.map_eq_some_iff]at h;obtain⟨pa,hpa,ks,hks,rfl⟩:=h;simp only[den,Option.bind_eq_some_iff]at hd;obtain⟨o1,hd1,hd2⟩:=hd;refine iha (k:=fun e S' _ _=>zP2 es 0 S e S') hpa hw hd1 hcl ?_;intro e S' f' d' pe' l h1 h2 h3;obtain⟨i,n,p,g1,g2,g3,g4,g5⟩:=zCx h1 h3 hlen hw.lt;rw[Nat.zero_add]at g3;rw[g3]at hd2;obtain⟨g6,pe2,g7,g8⟩:=zCd hks g1 hd2 g4;have hw2:Wf (ρ++o1.2) (z5Z p S d) f (d+p.pass.length):=⟨by simp[hlen,g4],g6,hw.facts.append (by rw[hlen]; exact hw.flt),zFv (by omega) hw.flt⟩;refine hcl e _ _ g5 ?_;rw[g2]at g7
    cases e with
    | normal=>
      refine ihb g7 hw2 g8 hQ fun e S2 f2 d2 pe2 l2 k1 k2 k3=>?_;rw[List.append_assoc]at k2 k3 |-;exact hk e S2 f2 d2 pe2 (o1.2++l2) k1 k2 k3
    | _=>exact hk _ _ f _ pe2 o1.2 g7 hw2 g8
   ·exact plain h
 | cond x a b iha ihb=>
   intro key S f d k pe ρ o Q h hw hd hQ hk;unfold sx at h
   cases x with
   | tmp s=>
     simp only at h;refine Ex.cond ?_;simp only[zTZ];rw[z13];have hlc:=z9j hw.lt s;generalize sget S s=c at h hlc;obtain⟨av,ver⟩:=c;simp only[SC.conc]
     cases av with
     | val ty x=>
       cases ty with
       | bool=>
         simp only[SV.conc]at h |-
         cases hk':zGz f x with
         | some bb=>
           rw[hk']at h;have hb:=z9w hw.facts hk'
           cases bb with
           | true=>exact⟨fun _=>iha h hw hd hQ hk,fun hf=>by rw[hb]at hf; cases hf⟩
           | false=>exact⟨fun hf=>(by rw[hb]at hf; cases hf),fun _=>ihb h hw hd hQ hk⟩
         | none=>
           rw[hk']at h;simp only at h;split at h
           case isFalse=>cases h
           rename_i hlx;simp only[Option.bind_eq_some_iff,Option.map_eq_some_iff]at h;obtain⟨p,hp,q,hq,rfl⟩:=h;simp only[den]at hd;refine⟨fun hb=>?_,fun hb=>?_⟩
           ·rw[if_pos hb]at hd;exact iha hp (hw.fact hlx hb) hd hQ hk
           ·rw[if_neg (by rw[hb]; simp)]at hd;exact ihb hq (hw.fact hlx hb) hd hQ hk
       | _=>cases h
     | _=>cases h
   | const v=>
     cases v with
     | bool bb=>
       refine Ex.cond ?_;simp only[zTZ]
       cases bb with
       | true=>exact⟨fun _=>iha h hw hd hQ hk,fun hf=>by cases hf⟩
       | false=>exact⟨fun hf=>(by cases hf),fun _=>ihb h hw hd hQ hk⟩
     | _=>cases h
   | _=>cases h
 | block id c ih=>
   intro key S f d k pe ρ o Q h hw hd hQ hk;unfold sx at h;refine Ex.block (ih h hw hd ?_ ?_)
   ·intro e S S' hW h
    cases e with
    | exit id'=>
      simp only[zG5]at h |-;by_cases hi:id'=id
      ·rw[if_pos hi]at h |-; exact hQ _ _ _ hW h
      ·rw[if_neg hi]at h |-; exact hQ _ _ _ hW h
    | _=>exact hQ _ _ _ hW h
   ·intro e S' f' d' pe' l h1 h2 h3
    cases e with
    | exit id'=>
      simp only[zG5]at h1 |-;by_cases hi:id'=id
      ·subst hi;rw[if_pos rfl];simp only[Nat.beq_refl,if_true]at h1;exact hk _ S' f' d' pe' l h1 h2 h3
      ·rw[if_neg hi];have:Nat.beq id' id=false:=by
        cases hb:Nat.beq id' id with
        | false=>rfl
        | true=>exact absurd (Nat.eq_of_beq_eq_true hb) hi
       simp only[this,Bool.false_eq_true,if_false]at h1;exact hk _ S' f' d' pe' l h1 h2 h3
    | _=>exact hk _ S' f' d' pe' l h1 h2 h3
 | loop c ih=>
   intro key S f d k pe ρ o Q h hw hd hQ hk;have hlen:=hw.len;unfold sx at h;split at h
   case h_2=>cases h
   rename_i hp es hes;split at h
   case isFalse=>cases h
   rename_i hkp;simp only[Bool.and_eq_true]at hkp;refine Ex.wk (z9h hp.pass S) ?_
   replace hw:Wf ρ (z6c hp.pass S) f d:=⟨hw.len,hkp.1,hw.facts,hw.flt⟩
   replace hkp:=hkp.2
   generalize z6c hp.pass S=S at *;simp only[Option.bind_eq_some_iff,Option.map_eq_some_iff]at h;obtain⟨xs,hxs,body,hbody,ks,hks,rfl⟩:=h;simp only[den,Option.bind_eq_some_iff]at hd;obtain⟨o1,hd1,hd2⟩:=hd;obtain⟨n,hn⟩:=zD2 hd1;have hw0:Wk Γ E (z1G ρ S) (z1G (ρ++xs.map (X.den ρ)) (z5Z hp S d)):=by
    have:=zMP (l:=[]) hlen hw.lt hxs hkp.1.1 hkp.1.2;rw[nil]at this;exact this.wk
   refine Ex.loop (fun n S'=>∃l,zAi (fun l=>den cs (.take hp.pass.length body) ρ 0 l) n l=some o1/\l.length=hp.pass.length/\Wk Γ E S' (z1G (ρ++l) (z5Z hp S d))) (n:=n) ⟨_,hn,by simp[zB3 hxs],hw0⟩ ?_;rintro n S1 ⟨l,hit,hll,hW⟩;refine Ex.wk hW ?_
   cases n with
   | zero=>cases hit
   | succ n=>
     unfold zAi at hit;simp only[den]at hit;rw[zLG l hp.pass.length 0 (by omega),List.drop_zero]at hit
     cases hdl:den cs body (ρ++l) 0 []with
     | none=>rw[hdl]at hit; cases hit
     | some ob=>
       rw[hdl]at hit;have hwh:Wf (ρ++l) (z5Z hp S d) f (d+hp.pass.length):=⟨by simp[hlen,hll],hkp.2,hw.facts.append (by rw[hlen]; exact hw.flt),zFv (by omega) hw.flt⟩;refine ih hbody hwh hdl ?_ ?_
       ·intro e S S' hW h
        cases e with
        | normal=>
          obtain⟨m,h1,l',h2,h3,h4⟩:=h;exact⟨m,h1,l',h2,h3,hW.trans h4⟩
        | _=>exact hQ _ _ _ hW h
       ·intro e S' f' d' pe' l' h1 h2 h3;rw[List.append_assoc]at h3 |-;have other:e≠.normal->zP2 es 1 S e S'=some pe'->Q e (z1G (ρ++(l++l')) S'):=by
         intro hne h1;obtain⟨i,m,p,g1,g2,g3,g4,g5⟩:=zCx h1 h3 hlen hw.lt;obtain⟨t,vals⟩:=ob;simp only at g3 g4 g5 hit;subst g3;rw[Nat.add_comm]at hit;simp only[Option.some.injEq]at hit;subst hit;simp only at hd2;obtain⟨g6,pe2,g7,g8⟩:=zCd hks g1 hd2 g4;rw[g2]at g7;exact hQ _ _ _ g5 (hk e _ f _ pe2 vals g7 ⟨by simp[hlen,g4],g6,hw.facts.append (by rw[hlen]; exact hw.flt),zFv (by omega) hw.flt⟩ g8)
        cases e with
        | normal=>
          obtain⟨i,m,p,g1,g2,g3,g4,g5⟩:=zCx h1 h3 hlen hw.lt;have hi:i=0:=by
           have:=(List.getElem?_eq_some_iff.1 g1).1;simpa using this
          subst hi;simp only[List.getElem?_cons_zero,Option.some.injEq,Prod.mk.injEq]at g1;obtain⟨rfl,rfl⟩:=g1;obtain⟨t,vals⟩:=ob;simp only at g3 g4 g5 hit;subst g3;simp only at hit;exact⟨n,Nat.lt_succ_self n,vals,hit,g4,g5⟩
        | _=>exact other (by simp) h1
 | _=>
   intro key S f d k pe ρ o Q h hw hd hQ hk;unfold sx at h
   cases h
end
end Go.Own
