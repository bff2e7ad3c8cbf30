/- A layer over the walk: what lies in memory as plain data, each operation by what it does to data; part 25. -/
import Derived.Test.YtilejnnnkfjmmaaGreatDoorD6
set_option linter.unusedSectionVars false
set_option linter.unusedVariables false
set_option linter.unusedSimpArgs false
namespace Go.Own
variable [Glb]
noncomputable section
open Go
def z70 (S:List SC) (ws:SWr) (s:Nat):SC:=match zLq ws s with
 | some c=>c
 | none=>sget S s
theorem zIh {Xc:Ctr} {ρ:List D} {S:List SC} {ws:SWr} {s:Nat} {k':Cl->A} {K:Wr->Prop} (h:(k' ((z70 S ws s).conc ρ)).wp Xc (z1Q ρ S) K):(askW (z3V ρ ws) s k').wp Xc (z1Q ρ S) K:=by
 unfold askW
 rw[zDZ]
 unfold z70 at h
 cases hs:zLq ws s with
 | some c=>rw[hs]at h; exact h
 | none=>
   rw[hs]at h;simp only[Option.map_none,A.wp];rw[z13]; exact h
def zO3 (S:List SC) (ws:SWr) (want:T) (s:Nat):Option (T×X×SWr):=
 match (z70 S ws s).av with
 | .val ty x=>if ty.plain then some (ty,x,[])else some (ty,x,[(s,⟨.undef,(z70 S ws s).v.kill⟩)])
 | .ref r v p ty x=>match (z70 S ws r).root with
   | some (tr,xr,_)=>if z29 v (z70 S ws r).v 0&&(zGy tr p&&decide (sAt tr p=ty))then
      some (ty,smix ty x (getX xr p),[(r,(z70 S ws r).setRoot (zBL tr p ty.moved) xr (z70 S ws r).v.head)])else none
   | none=>none
 | .nil=>match want with
   | .lst _ e=>some (.lst true e,.nil,[])
   | _=>none
 | _=>none
theorem zLs {Xc:Ctr} {ρ:List D} {S:List SC} {ws:SWr} {want:T} {s:Nat} {t:T} {x:X} {w:SWr} {k':T->D->Wr->A} {K:Wr->Prop} (h:zO3 S ws want s=some (t,x,w)) (hk:(k' t (x.den ρ) (z3V ρ w)).wp Xc (z1Q ρ S) K) :
 (takeW (z3V ρ ws) want (.tmp s) k').wp Xc (z1Q ρ S) K:=by
 unfold zO3 at h
 unfold takeW
 refine zIh ?_
 generalize hc:z70 S ws s=c at h
 obtain⟨a,v⟩:=c
 simp only at h
 cases a with
 | val ty y=>
   simp only[SC.conc,SV.conc];simp only at h;by_cases hp:ty.plain=true
   ·rw[if_pos hp]at h |-
    cases h; exact hk
   ·rw[if_neg hp]at h |-
    cases h; exact hk
 | ref r v p ty y=>
   simp only[SC.conc,SV.conc];refine zIh ?_;simp only at h;generalize z70 S ws r=cr at h;rw[SC.root_conc]
   cases hr:cr.root with
   | none=>rw[hr]at h; cases h
   | some q=>
     obtain⟨tr,xr,bx⟩:=q;rw[hr]at h;simp only at h;split at h
     case isFalse=>cases h
     rename_i hb
     cases h
     simp only[Bool.and_eq_true,decide_eq_true_eq]at hb;simp only[Option.map_some,A.wp];refine⟨⟨z0l hb.1,by rw[z6d]; exact hb.2.1,by rw[z1d]; exact hb.2.2⟩,?_⟩;rw[zA3,z28]at hk;simp only[z3V,List.map_cons,List.map_nil,SC.setRoot_conc]at hk;rw[z6k];exact hk
 | nil=>
   simp only[SC.conc,SV.conc];simp only at h
   cases want <;> first | (cases h; done) | (cases h; exact hk)
 | _=>cases h
def zQh (Γ:Env) (S:List SC) (ws:SWr) (r:ResultVar) (want:TypeId):Option (T×X×SWr):=
 match r with
 | .tmp s=>zO3 S ws (Γ.ty want) s
 | .cell a t=>match (z70 S ws a).av with
   | .box tr dr=>if decide (tr.view=(Γ.ty t).view)&&(Γ.ty t).ok then some (tr,dr,[(a,⟨.undef,(z70 S ws a).v.kill⟩)])else none
   | _=>none
theorem zQi {Γ:Env} {Xc:Ctr} {ρ:List D} {S:List SC} {ws:SWr} {r:ResultVar} {want:TypeId} {t:T} {x:X} {w:SWr} {k':T->D->Wr->A} {K:Wr->Prop} (h:zQh Γ S ws r want=some (t,x,w)) (hk:(k' t (x.den ρ) (z3V ρ w)).wp Xc (z1Q ρ S) K) :
 (zQk Γ (z3V ρ ws) r want k').wp Xc (z1Q ρ S) K:=by
 cases r with
 | tmp s=>exact zLs h hk
 | cell a ty=>
   simp only[zQh]at h;unfold zQk;refine zIh ?_;generalize z70 S ws a=c at h;obtain⟨av,v⟩:=c
   cases av with
   | box tr dr=>
     simp only at h;split at h
     case isFalse=>cases h
     rename_i hb
     cases h
     simp only[Bool.and_eq_true,decide_eq_true_eq]at hb;exact⟨hb,hk⟩
   | _=>cases h
def zRj (Γ:Env) (S:List SC):List ResultVar->List TypeId->SWr->Option (T×X×SWr)
 | r::rs,t::ts,ws=>match zQh Γ S ws r t with
   | some (t1,x1,w1)=>match zRj Γ S rs ts (ws++w1)with
     | some (t2,x2,w2)=>some (.pair t1 t2,.bi .pair x1 x2,w2)
     | none=>none
   | none=>none
 | [],_,ws=>some (.unit,.u,ws)
 | _::_,[],_=>none
theorem zO2 {Γ:Env} {Xc:Ctr} {ρ:List D} {S:List SC} {K:Wr->Prop}:∀{rs:List ResultVar} {ts:List TypeId} {ws:SWr} {t:T} {x:X} {w:SWr} {k':T->D->Wr->A},zRj Γ S rs ts ws=some (t,x,w)->(k' t (x.den ρ) (z3V ρ w)).wp Xc (z1Q ρ S) K ->
 (resT Γ rs ts (z3V ρ ws) k').wp Xc (z1Q ρ S) K
 | r::rs,ty::ts,ws,t,x,w,k',h,hk=>by
   unfold zRj at h;split at h
   case h_2=>cases h
   rename_i t1 x1 w1 h1;split at h
   case h_2=>cases h
   rename_i t2 x2 w2 h2
   cases h
   unfold resT;refine zQi h1 ?_;rw[<- z0y];exact zO2 h2 hk
 | [],_,ws,t,x,w,k',h,hk=>by
   cases h
   unfold resT;exact hk
 | _::_,[],_,_,_,_,_,h,_=>by cases h
def z6o (S:List SC):Nat->List (Mode×T)->SWr->Option (List X)
 | _,[],_=>some []
 | i,(.io,t)::as,ws=>match zO3 S ws t i with
   | some (t1,x1,w1)=>if decide (t1=t)then(z6o S (i+1) as (ws++w1)).map (x1 :: ·)else none
   | none=>none
 | i,(.iop,t)::as,ws=>match (z70 S ws i).av with
   | .box t1 x1=>if decide (t1=t)then(z6o S (i+1) as (ws++[(i,⟨.undef,(z70 S ws i).v.kill⟩)])).map (x1 :: ·)else none
   | _=>none
 | i,_::as,ws=>(z6o S (i+1) as ws).map (.u :: ·)
theorem z9m {Xc:Ctr} {ρ:List D} {S:List SC} {K:Wr->Prop}:∀{as:List (Mode×T)} {ds:List D} {i:Nat} {ws:SWr} {xs:List X} {k':List D->Wr->A},ds.length=as.length->z6o S i as ws=some xs->(∀ws',(k' (xs.map (X.den ρ)) ws').wp Xc (z1Q ρ S) K) ->
 (zJf i (z2A as ds) (z3V ρ ws) k').wp Xc (z1Q ρ S) K
 | [],[],i,ws,xs,k',_,h,hk=>by cases h; exact hk _
 | [],_::_,_,_,_,_,hl,_,_=>by simp at hl
 | _::_,[],_,_,_,_,hl,_,_=>by simp at hl
 | (m,t)::as,d::ds,i,ws,xs,k',hl,h,hk=>by
   simp only[List.length_cons,Nat.succ.injEq]at hl;unfold z2A zJf
   cases m with
   | io=>
     unfold z6o at h;simp only at h |-;split at h
     case h_2=>cases h
     rename_i t1 x1 w1 h1;split at h
     case isFalse=>cases h
     rename_i ht;simp only[Option.map_eq_some_iff]at h;obtain⟨ys,hy,rfl⟩:=h;refine zLs h1 ?_;simp only[A.wp];refine⟨by simpa using ht,?_⟩;rw[<- z0y];exact z9m hl hy fun ws'=>by simpa using hk ws'
   | iop=>
     unfold z6o at h;simp only at h |-;refine zIh ?_;generalize hcc:z70 S ws i=c at h;obtain⟨av,v⟩:=c
     cases av with
     | box t1 x1=>
       simp only at h;split at h
       case isFalse=>cases h
       rename_i ht;simp only[Option.map_eq_some_iff]at h;obtain⟨ys,hy,rfl⟩:=h;simp only[SC.conc,SV.conc,A.wp];refine⟨by simpa using ht,?_⟩;have:=z9m (Xc:=Xc) (K:=K) (ρ:=ρ) (k':=fun ds ws''=>k' (x1.den ρ::ds) ws'') hl hy fun ws'=>by simpa using hk ws'
       rw[z0y]at this;exact this
     | _=>cases h
   | vw=>
     unfold z6o at h;simp only[Option.map_eq_some_iff]at h;obtain⟨ys,hy,rfl⟩:=h;exact z9m hl hy fun ws'=>by simpa [X.den]using hk ws'
   | own=>
     unfold z6o at h;simp only[Option.map_eq_some_iff]at h;obtain⟨ys,hy,rfl⟩:=h;exact z9m hl hy fun ws'=>by simpa [X.den]using hk ws'
def zEe:List (Mode×T)->List X->X
 | (.io,_)::as,o::os=>.bi .pair o (zEe as os)
 | (.iop,_)::as,o::os=>.bi .pair o (zEe as os)
 | _::as,_::os=>zEe as os
 | _,_=>.u
theorem z9b {ρ:List D} {S:List SC}:∀{as:List (Mode×T)} {i:Nat} {ws:SWr} {xs:List X},z6o S i as ws=some xs->z5M as ((zEe as xs).den ρ)=xs.map (X.den ρ)
 | [],i,ws,xs,h=>by cases h; rfl
 | (m,t)::as,i,ws,xs,h=>by
   cases m with
   | io=>
     unfold z6o at h;split at h
     case h_2=>cases h
     split at h
     case isFalse=>cases h
     simp only[Option.map_eq_some_iff]at h;obtain⟨ys,hy,rfl⟩:=h;simp[zEe,z5M,X.den,Bi.sem,z9b hy]
   | iop=>
     unfold z6o at h;split at h
     case h_2=>cases h
     split at h
     case isFalse=>cases h
     simp only[Option.map_eq_some_iff]at h;obtain⟨ys,hy,rfl⟩:=h;simp[zEe,z5M,X.den,Bi.sem,z9b hy]
   | vw=>
     unfold z6o at h;simp only[Option.map_eq_some_iff]at h;obtain⟨ys,hy,rfl⟩:=h;simp[zEe,z5M,X.den,z9b hy]
   | own=>
     unfold z6o at h;simp only[Option.map_eq_some_iff]at h;obtain⟨ys,hy,rfl⟩:=h;simp[zEe,z5M,X.den,z9b hy]
theorem zB1:∀{as:List (Mode×T)} {S:List SC} {i:Nat} {ws:SWr} {xs:List X} {ρ:List D} (d:D),z6q as=false->z6o S i as ws=some xs->z5M as d=xs.map (X.den ρ)
 | [],S,i,ws,xs,ρ,d,_,h=>by cases h; rfl
 | (m,t)::as,S,i,ws,xs,ρ,d,hn,h=>by
   simp only[z6q,List.any_cons,Bool.or_eq_false_iff,decide_eq_false_iff_not]at hn
   cases m with
   | io=>simp at hn
   | iop=>simp at hn
   | vw=>
     unfold z6o at h;simp only[Option.map_eq_some_iff]at h;obtain⟨ys,hy,rfl⟩:=h;simp[z5M,X.den,zB1 (ρ:=ρ) d (by simpa [z6q]using hn.2) hy]
   | own=>
     unfold z6o at h;simp only[Option.map_eq_some_iff]at h;obtain⟨ys,hy,rfl⟩:=h;simp[z5M,X.den,zB1 (ρ:=ρ) d (by simpa [z6q]using hn.2) hy]
def zL8:T->Bool
 | .pair _ .unit=>true
 | _=>false
def zSe:T->T->Bool
 | .lst true e,.lst true e'=>decide (e.view=e'.view)
 | _,_=>false
theorem zOa {t u:T} (h:zSe t u=true):∃e e',t=.lst true e/\u=.lst true e'/\e.view=e'.view:=by
 unfold zSe at h
 split at h
 ·exact⟨_,_,rfl,rfl,of_decide_eq_true h⟩
 ·cases h
def sfin (Γ:Env) (fn:Func) (as:List (Mode×T)) (one:Bool) (res:T) (S:List SC):Option X:=
 match zRj Γ S fn.results.toList fn.resultTypes.toList []with
 | none=>none
 | some (t,x,ws)=>match z6o S 0 as ws with
   | none=>none
   | some os=>
     if one then
      (if zL8 t&&decide (t.fld 0=res)then some (if z6q as then .bi .pair (z6I x 0) (zEe as os)else z6I x 0)
       else if zL8 t&&(zSe (t.fld 0) res&&(z6I x 0).beq .nil)then some (if z6q as then .bi .pair .nil (zEe as os)else .nil)else none)
     else
      (if !zL8 t&&decide (t=res)then some (if z6q as then .bi .pair x (zEe as os)else x)else none)
def zId:List (Mode×T)->Nat->List SC
 | [],_=>[]
 | (m,t)::as,i=>⟨if decide (m=.iop)then .box t (.v i)else .val t (.v i),⟨0,0,0⟩⟩::zId as (i+1)
def zL6:List (Mode×T)->Nat->List Nat
 | [],_=>[]
 | (m,_)::as,i=>if decide (m=.io)||decide (m=.iop)then i::zL6 as (i+1)else zL6 as (i+1)
def zTS (cs:List Ent) (g:FuncId):List Mode:=match cs with
 | []=>[]
 | e::cs=>if Nat.beq e.g g then e.as.map (·.1)else zTS cs g
def tyOf:List (TypeId×T×Nat)->TypeId->T
 | [],_=>.gone
 | (n,t,_)::l,m=>if Nat.beq n m then t else tyOf l m
def ebOf:List (TypeId×T×Nat)->TypeId->Nat
 | [],_=>0
 | (n,_,e)::l,m=>if Nat.beq n m then e else ebOf l m
def zPN (tys:List (TypeId×T×Nat)) (cs:List Ent) (fn:Func) (as:List (Mode×T)) (hs:List (Nat×Hint)):Env:=⟨tyOf tys,ebOf tys,zTS cs,fn.ntmps,zL6 as 0,zTA hs⟩
def kfin (Γ:Env) (fn:Func) (as:List (Mode×T)) (one:Bool) (res:T):Kont:=fun e S _ _=>match e with
 | .normal=>(sfin Γ fn as one res (z8q fn.results.toList S)).map fun x=>.out 0 [x]
 | .ret=>(sfin Γ fn as one res (z8q fn.results.toList S)).map fun x=>.out 0 [x]
 | _=>none
def comp (tys:List (TypeId×T×Nat)) (cs:List Ent) (hs:List (Nat×Hint)) (fn:Func) (as:List (Mode×T)) (one:Bool) (res:T):Option PE:=
 match fn.body with
 | none=>none
 | some c=>if Nat.ble as.length fn.ntmps then sx (zPN tys cs fn as hs) cs hs c 1 (zId as 0) [] as.length (kfin (zPN tys cs fn as hs) fn as one res)else none
def zRh (cs:List Ent) (pe:PE) (ds:List D):Option D:=(den cs pe ds 0 []).bind fun o=>o.2.head?
variable {P : Program} {cs : List Ent}
theorem zSp {Γ:Env} {fn:Func} {as:List (Mode×T)} {one:Bool} {res:T} {S:List SC} {x:X} {ρ ds:List D} {e:Ent} (hl:ds.length=as.length) (he:e.as=as) (ho:e.one=one) (hr:e.res=res) (h:sfin Γ fn as one res S=some x) :
 fin Γ fn (z2A as ds) (fun R O=>R=e.mkRes (x.den ρ)/\O=z5M e.as (if z6q e.as then(x.den ρ).snd else .unit)) (z1Q ρ S):=by
 subst he ho hr
 unfold sfin at h
 split at h
 ·cases h
 rename_i t y ws h1
 split at h
 ·cases h
 rename_i os h2
 unfold fin
 refine zO2 (ws:=[]) h1 ?_
 refine z9m hl h2 fun ws'=>?_
 simp only[A.wp,and_true]
 have hO:∀{d:D},(z6q e.as=true->d.snd=(zEe e.as os).den ρ)->os.map (X.den ρ)=z5M e.as (if z6q e.as then d.snd else .unit):=by
  intro d hd;by_cases hi:z6q e.as=true
  ·rw[if_pos hi,hd hi,z9b h2]
  ·rw[if_neg hi,zB1 .unit (by simpa using hi) h2]
 split at h
 ·rename_i hone;split at h
  case isFalse=>
   split at h
   case isFalse=>cases h
   rename_i hb;simp only[Bool.and_eq_true]at hb;obtain⟨hb1,hb2,hb3⟩:=hb;obtain⟨e0,e',ht0,hr0,hv⟩:=zOa hb2;have ht:t=.pair (.lst true e0) .unit:=by
    cases t with
    | pair a b=>cases b <;> simp[zL8]at hb1 ht0 |-; exact ht0
    | _=>simp[zL8]at hb1
   subst ht
   cases h
   have hd:(y.den ρ).fst=.lst []:=by
    have h5:=X.eq_of_beq hb3;have h6:((z6I y 0).den ρ)=(X.nil).den ρ:=by rw[h5]
    rw[z39]at h6;exact h6
   refine⟨_,.inr ⟨e0,e',rfl,hd,hv,rfl⟩,?_,hO (d:=_) ?_⟩
   ·unfold Ent.mkRes;rw[if_pos hone,hr0];congr 1;by_cases hi:z6q e.as=true
    ·rw[if_pos hi,if_pos hi]; rfl
    ·rw[if_neg hi,if_neg hi]; rfl
   ·intro hi; rw[if_pos hi]; rfl
  rename_i hb;simp only[Bool.and_eq_true,decide_eq_true_eq]at hb;have ht:t=.pair e.res .unit:=by
   cases t with
   | pair a b=>cases b <;> simp[zL8]at hb |-; exact hb
   | _=>simp[zL8]at hb
  subst ht
  cases h
  refine⟨_,.inl rfl,?_,hO (d:=_) ?_⟩
  ·unfold Ent.mkRes;rw[if_pos hone];simp only[zLe];congr 1;by_cases hi:z6q e.as=true
   ·rw[if_pos hi,if_pos hi]; simp[X.den,Bi.sem,z39]
   ·rw[if_neg hi,if_neg hi]; simp[z39]
  ·intro hi; rw[if_pos hi]; rfl
 ·rename_i hone;split at h
  case isFalse=>cases h
  rename_i hb;simp only[Bool.and_eq_true,decide_eq_true_eq,Bool.not_eq_true']at hb;obtain⟨hb,rfl⟩:=hb
  cases h
  refine⟨_,.inl rfl,?_,hO (d:=_) ?_⟩
  ·unfold Ent.mkRes;rw[if_neg hone];have:zLe e.res (y.den ρ)=.many e.res (y.den ρ):=by
    generalize e.res=t at hb
    cases t with
    | pair a b=>cases b <;> first | rfl | (simp[zL8]at hb)
    | _=>rfl
   rw[this];congr 1;by_cases hi:z6q e.as=true
   ·rw[if_pos hi,if_pos hi]; simp[X.den,Bi.sem]
   ·rw[if_neg hi,if_neg hi]
  ·intro hi; rw[if_pos hi]; rfl
theorem zH8 {ρ:List D}:∀(as:List (Mode×T)) (ds:List D) (i:Nat),ds.length=as.length->(∀j,ds[j]? = ρ[i+j]?)->(zId as i).map (SC.conc ρ)=zO5 (z2A as ds)
 | [],[],_,_,_=>rfl
 | [],_::_,_,h,_=>by simp at h
 | _::_,[],_,h,_=>by simp at h
 | (m,t)::as,d::ds,i,h,hd=>by
   simp only[List.length_cons,Nat.succ.injEq]at h;have h0:=hd 0;simp only[List.getElem?_cons_zero,Nat.add_zero]at h0;have hv:(X.v i).den ρ=d:=by simp[X.den,<- h0]
   have ih:=zH8 as ds (i+1) h (fun j=>by
    have:=hd (j+1);simp only[List.getElem?_cons_succ]at this;rw[this]; congr 1; omega)
   simp only[zId,List.map_cons,z2A,zO5,ih];congr 1;by_cases hm:m=.iop
   ·simp[hm,SC.conc,SV.conc,hv]
   ·simp[hm,SC.conc,SV.conc,hv]
theorem zLu:∀(as:List (Mode×T)) (i:Nat),ltL (i+as.length) (zId as i)=true
 | [],_=>rfl
 | (m,t)::as,i=>by
   have:=zLu as (i+1);rw[show i+1+as.length=i+((m,t)::as).length by simp; omega]at this;simp only[zId,ltL,List.all_cons,Bool.and_eq_true];refine⟨?_,this⟩;split <;> simp[SV.lt,X.lt]
theorem Ex.down {Γ:Env} {E:Entry} {c:Code} {Q:Exit->St->Prop} {S:St} (h:Ex P Γ E c (fun e S=>∃S',Wk Γ E S S'/\Q e S') S):Ex P Γ E c Q S:=by
 intro act w hi
 refine wp_mono (h act w hi) ?_
 rintro e a w' ⟨S',⟨S2,h1,h2⟩,hi'⟩
 exact⟨S2,h2,h1 _ _ hi'⟩
theorem zG2:∀(as:List (Mode×T)) (k i:Nat),i∈zL6 as k->k<=i/\i<k+as.length
 | [],k,i,h=>by simp[zL6]at h
 | (m,t)::as,k,i,h=>by
   unfold zL6 at h;split at h
   ·simp only[List.mem_cons]at h;rcases h with rfl | h
    ·simp
    ·have:=zG2 as (k+1) i h; simp; omega
   ·have:=zG2 as (k+1) i h; simp; omega
theorem zNl:∀(as:List (Mode×T)) (ds:List D) (k i:Nat) (a:Arg),(z2A as ds)[i]? = some a->a.m=.io\/a.m=.iop->k+i∈zL6 as k
 | [],ds,k,i,a,h,_=>by cases ds <;> simp[z2A]at h
 | _::_,[],k,i,a,h,_=>by simp[z2A]at h
 | (m,t)::as,d::ds,k,i,a,h,ha=>by
   unfold zL6
   cases i with
   | zero=>
     simp[z2A]at h;subst h;simp only at ha;rw[if_pos (by simpa using ha)];simp
   | succ i=>
     simp only[z2A,List.getElem?_cons_succ]at h;have:=zNl as ds (k+1) i a h ha;rw[show k+1+i=k+(i+1) by omega]at this;split
     ·simp[this]
     ·exact this
theorem zCv:∀{as:List (Mode×T)} {ds:List D},ds.length=as.length->(z2A as ds).length=as.length
 | [],[],_=>rfl
 | [],_::_,h=>by simp at h
 | _::_,[],h=>by simp at h
 | (m,t)::as,d::ds,h=>by
   simp only[List.length_cons,Nat.succ.injEq]at h;simp[z2A,zCv h]
theorem Ent.ok_of {tys:List (TypeId×T×Nat)} {hs:List (Nat×Hint)} {e:Ent} {fn:Func} {pe:PE} (okE:∀sig n fx fr,EnvOk P ⟨tyOf tys,ebOf tys,sig,n,fx,fr⟩) (hcs:∀c∈cs,c.Ok P) (hf:P.funcs[e.g]? = some fn)
 (hng : (fn.name == "runtime.NumGoroutine") = false) (hc : comp tys cs hs fn e.as e.one e.res = some pe) (hF : e.F = zRh cs pe) : e.Ok P := by
 unfold comp at hc
 split at hc
 ·cases hc
 rename_i c hb
 split at hc
 case isFalse=>cases hc
 rename_i hle
 have hle':=Nat.le_of_ble_eq_true hle
 refine⟨⟨fn,hf,hng,by rw[hb]; rfl⟩,fun ds out hl ho=>?_⟩
 rw[hF]at ho
 unfold zRh at ho
 simp only[Option.bind_eq_some_iff]at ho
 obtain⟨o,hd,ho⟩:=ho
 refine zBR.of (okE _ _ _ _) (Γ:=zPN tys cs fn e.as hs) hf hb rfl (by rw[zCv hl]; exact hle') ?_ ?_ fun E=>?_
 ·intro i hi;have:=zG2 e.as 0 i hi;rw[zCv hl]; omega
 ·intro i a ha hm;have:=zNl e.as ds 0 i a ha hm
  rwa [Nat.zero_add]at this
 ·rw[zRk,<- zH8 (ρ:=ds) e.as ds 0 hl (by simp)];refine Ex.down ?_;refine zRm (okE _ _ _ _) hcs c (ρ:=ds) hc ⟨hl,by have:=zLu e.as 0; rwa [Nat.zero_add]at this,(by intro x b hm; cases hm),rfl⟩ hd ?_ ?_
  ·rintro ex S S' hW ⟨S2,h1,h2⟩;exact⟨S2,hW.trans h1,h2⟩
  ·intro ex S' f' d' pe' l h1 h2 h3;refine⟨_,zBM fn.results.toList _,?_⟩;have key:∀x,sfin (zPN tys cs fn e.as hs) fn e.as e.one e.res (z8q fn.results.toList S')=some x->pe'=.out 0 [x]->fin (zPN tys cs fn e.as hs) fn (z2A e.as ds) (fun R O=>R=e.mkRes out/\O=z5M e.as (if z6q e.as then out.snd else .unit)) (z1Q (ds++l) (z8q fn.results.toList S')):=by
    intro x hx hp;subst hp;simp only[den,Option.some.injEq]at h3;subst h3;simp at ho;subst ho;exact zSp hl rfl rfl rfl hx
   unfold kfin at h1
   cases ex with
   | normal=>
     simp only[Option.map_eq_some_iff]at h1;obtain⟨x,hx,rfl⟩:=h1;exact key x hx rfl
   | ret=>
     simp only[Option.map_eq_some_iff]at h1;obtain⟨x,hx,rfl⟩:=h1;exact key x hx rfl
   | _=>cases h1
end
end Go.Own
namespace Go.Own
variable [Glb]
open Go
def inb (i:Int) (n:Nat):Bool:=decide (0<=i)&&decide (i<n)
def makeOk (eb:Nat) (n:Int):Bool:=decide (0<=n)&&(decide (n.toNat<=smax)&&decide (n.toNat*eb<=140737488355328))
def catOk (a b:List UInt8):Bool:=decide (a.length+b.length<=smax)
def appOk (eb:Nat) (a b:List D):Bool:=decide (a.length+b.length<=smax)&&decide ((a.length+b.length)*eb<=140737488355328)
def winOk (lo n:Nat) (l:List D):Bool:=decide (lo+n<=l.length)
def slOk (lo hi n:Int):Bool:=decide (0<=lo)&&(decide (lo<=hi)&&decide (hi<=n))
def rn (o:Outc):Option D:=o.bind fun o=>o.2.head?
def gd (l:List D) (i:Nat):D:=l.getD i .unit
abbrev ou (n:Nat) (l:List D):Outc:=some (n,l)
theorem zO7:∀{l:List (TypeId×T×Nat)} {t:TypeId},(tyOf l t).ok=true->t∈l.map (·.1)
 | [],t,h=>by simp[tyOf]at h
 | (n,T,e)::l,t,h=>by
   unfold tyOf at h;split at h
   ·rename_i hb;simp[Nat.eq_of_beq_eq_true hb]
   ·have:=zO7 h;simp only[List.map_cons,List.mem_cons];exact .inr this
theorem EnvOk.ofL {P:Program} {tys:List (TypeId×T×Nat)} (h:∀sig n fx fr,∀t,t∈tys.map (·.1)->zP1 P ⟨tyOf tys,ebOf tys,sig,n,fx,fr⟩ t) (hm:P.follows .mixedOrders=true):∀sig n fx fr,EnvOk P ⟨tyOf tys,ebOf tys,sig,n,fx,fr⟩:=
 fun sig n fx fr=>EnvOk.of (tys.map (·.1)) (fun _ ht=>zO7 ht) (h sig n fx fr) hm
theorem z07 {P:Program}:∀c∈([]:List Ent),c.Ok P:=by simp
theorem z02 {P:Program} {e:Ent} {cs:List Ent} (h1:e.Ok P) (h2:∀c∈cs,c.Ok P):∀c∈e::cs,c.Ok P:=by
 intro c hc
 simp only[List.mem_cons]at hc
 rcases hc with rfl | hc
 ·exact h1
 ·exact h2 c hc
theorem zQd {α:Type} {o:Option α} {d:α} (h:o.isSome=true):o=some (o.getD d):=by
 cases o with
 | none=>cases h
 | some a=>rfl
end Go.Own
namespace Go.Own
open Go
abbrev Glb.at (gs:List (Nat×(Obj->Prop))):Glb where
 ok h V:=∀p∈gs,V p.1/\∃o,h[p.1]? = some o/\p.2 o
 stable h hs hV p hp:=by
  obtain⟨h1,o,h2,h3⟩:=h p hp;exact⟨hV _ h1,o,by rw[hs _ h1]; exact h2,h3⟩
def zRK (k:IntKind) (o:Obj):Prop:=∃m arr ty fz,o=.cells arr ty fz/\arr[0]? = some (.int k m)
theorem zOV {w:World} {g:Nat} {k:IntKind} (h:∃m,w.cell? ⟨g,0,none⟩=some (.int k m)):∃o,w.heap[g]? = some o/\zRK k o:=by
 obtain⟨m,h⟩:=h
 unfold World.cell? at h
 split at h
 ·rename_i c ty fz hc;exact⟨_,hc,m,c,ty,fz,rfl,by simpa using h⟩
 ·cases h
theorem zPl {h:Heap} {g:Nat} {k:IntKind} (ho:∃o,h[g]? = some o/\zRK k o):∃m arr ty fz,h[g]? = some (.cells arr ty fz)/\arr[0]? = some (.int k m):=by
 obtain⟨o,h1,m,arr,ty,fz,rfl,h2⟩:=ho
 exact⟨m,arr,ty,fz,h1,h2⟩
end Go.Own
namespace Go.Own
open Go
def zOU (o:Obj):Prop:=∃ev arr ty fz,o=.cells arr ty fz/\arr[0]? = some ev/\(ev=.nilIface\/∃te pe,ev=.iface te pe)
def zRJ (a:Array Value) (o:Obj):Prop:=∃ty fz,o=.cells a ty fz
theorem zL7 {h:Heap} {g:Nat} (ho:∃o,h[g]? = some o/\zOU o):∃ev arr ty fz,h[g]? = some (.cells arr ty fz)/\arr[0]? = some ev/\(ev=.nilIface\/∃te pe,ev=.iface te pe):=by
 obtain⟨o,h1,ev,arr,ty,fz,rfl,h2⟩:=ho
 exact⟨ev,arr,ty,fz,h1,h2⟩
theorem zPk {h:Heap} {g:Nat} {a:Array Value} (ho:∃o,h[g]? = some o/\zRJ a o):∃ty fz,h[g]? = some (.cells a ty fz):=by
 obtain⟨o,h1,ty,fz,rfl⟩:=ho
 exact⟨ty,fz,h1⟩
end Go.Own
namespace Go.Own
variable [Glb]
open Go
noncomputable def mkE (tys:List (TypeId×T×Nat)) (g:FuncId) (cs:List Ent) (hs:List (Nat×Hint)) (fn:Func) (as:List (Mode×T)) (one:Bool) (res:T):Ent:=
 ⟨g,as,one,res,zRh cs ((comp tys cs hs fn as one res).getD PE.bot)⟩
theorem z08 {P:Program} {tys:List (TypeId×T×Nat)} {g:FuncId} {cs:List Ent} {hs:List (Nat×Hint)} {fn:Func} {as:List (Mode×T)} {one:Bool} {res:T}
 (okE : ∀ sig n fx fr, EnvOk P ⟨tyOf tys, ebOf tys, sig, n, fx, fr⟩) (hcs : ∀ c ∈ cs, c.Ok P) (hf : P.funcs[g]? = some fn) (hng : (fn.name == "runtime.NumGoroutine") = false)
 (h:(comp tys cs hs fn as one res).isSome=true):(mkE tys g cs hs fn as one res).Ok P:=
 Ent.ok_of (pe:=(comp tys cs hs fn as one res).getD PE.bot) (hs:=hs) okE hcs hf hng (zQd h) rfl
end Go.Own
namespace Go.Own
def upd (l:List D) (i j:Nat) (v:D):List D:=l.set i ((gd l i).setFld j v)
def upd2 (l:List D) (i j k:Nat) (v:D):List D:=l.set i ((gd l i).setFld j (((gd l i).fld j).setFld k v))
end Go.Own
