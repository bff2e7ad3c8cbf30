/- What the functions compute, in plain words. -/
import Derived.Test.YtcnjllnhfoiojaaGreatDoorP4
set_option linter.unusedSectionVars false
set_option linter.unusedVariables false
set_option linter.unusedSimpArgs false
namespace Go.Proofs.YtcnjllnhfoiojaaGreatDoor
open Go Go.Own
theorem zOO {α:Type} {f:α->D} {c:List D->Option D} {xs:List α} (hl:xs.length<=smax) (hc:∀x∈xs,c [f x,f x]=some (.bool true)):rn (
 if (((D.lst (xs.map f)).l.length:Int) != ((D.lst (xs.map f)).l.length:Int))then
  ou 0 [(.bool false)]
 else
  (z0Y (fun l2=>
    if (decide ((gd l2 0).i<((D.lst (xs.map f)).l.length:Int)))then
     if (inb (gd l2 0).i (D.lst (xs.map f)).l.length)then
     if (inb (gd l2 0).i (D.lst (xs.map f)).l.length)then
     (c [(gd (D.lst (xs.map f)).l (gd l2 0).i.toNat),(gd (D.lst (xs.map f)).l (gd l2 0).i.toNat)]).bind fun r3=>
     if (!r3.b)then
      ou 1 []
     else
      ou 0 [(.int (IntKind.wrap .i64 ((gd l2 0).i+1)))]
     else none
     else none
    else
     ou 2 []) [(.int 0)]).bind fun o2=>
  sel2 o2.1 (ou 0 [(.bool false)]) fun n4=>
  sel2 n4 (ou 0 [(.bool true)]) fun _=>none)=some (.bool true):=by
 rw[if_neg (by simp)]
 refine z0E (z0u (fun i (_:Unit)=>[.int i]) xs.length (fun _=>()) (t:=1) (o:=[]) rfl ?_ ?_) rfl
 ·intro i hi;have:=hc _ (List.getElem_mem hi);simp[hi,z2Q hi,z0A hi,z0B hi hl,this]
 ·simp
theorem zPY {α:Type} {f:α->D} {c:List D->Option D} {xs:List α} {z:D} {eb:Nat} (he:eb<=16777216) (hl:xs.length<=lim) (hc:∀x∈xs,c [f x]=some (f x)):rn (
 if (makeOk eb ((D.lst (xs.map f)).l.length:Int))then
 (z0Y (fun l1=>
   if (decide ((gd l1 1).i<((D.lst (xs.map f)).l.length:Int)))then
    if (inb (gd l1 1).i (D.lst (xs.map f)).l.length)then
    (c [(gd (D.lst (xs.map f)).l (gd l1 1).i.toNat)]).bind fun r3=>
    if (inb (gd l1 1).i (gd l1 0).l.length)then
    ou 0 [(D.lst ((gd l1 0).l.set (gd l1 1).i.toNat r3)),(.int (IntKind.wrap .i64 ((gd l1 1).i+1)))]
    else none
    else none
   else
    ou 1 [(gd l1 0)]) [(D.lst (List.replicate ((D.lst (xs.map f)).l.length:Int).toNat z)),(.int 0)]).bind fun o1=>
 sel2 o1.1 (ou 0 [(gd o1.2 0)]) fun _=>none
 else none)=some (.lst (xs.map f)):=by
 have hlen:(D.lst (xs.map f)).l.length=xs.length:=by simp
 rw[hlen]; refine z0F (z8I hl he) ?_
 refine z0E (z0u (fun i (zs:List D)=>[.lst zs,.int i]) xs.length (z8z (xs.map f) z) (t:=0) (o:=[.lst (xs.map f)]) (by simp[zAa]) ?_ ?_) rfl
 ·intro i hi;have hm:i<(xs.map f).length:=by simpa using hi
  have hf:=zCk (z:=z) hm;have ht:=hc _ (List.getElem_mem hi);rw[List.getElem_map]at hf;simp[hi,z2Q hi,z0A hi,z0B hi (Nat.le_trans hl z0R),z8d (Nat.le_of_lt hm),hf,ht]
 ·have:=zCj (xs:=xs.map f) (z:=z);rw[List.length_map]at this;simp[this]
def SzOk {α:Type} (f:α->D) (c:Int->D->Int) (Q:α->Prop):Prop:=∀(x:α) (s:Int),0<=s->s<=lim->c s (f x)<=s/\(0<=c s (f x)->Q x)
theorem zPU {α:Type} {f:α->D} {c:Int->D->Int} {e:List D->Option D} {Q:α->Prop} {xs:List α} {left:Int} (hQ:SzOk f c Q) (hl:xs.length<=smax) (h0:0<=left) (h1:left<=lim)
 (hc:∀x∈xs,∀s:Int,0<=s->s<=lim->e [f x,.int s]=some (.int (c s (f x)))):rn (
 if (decide ((IntKind.wrap .i64 ((D.int left).i-((D.lst (xs.map f)).l.length:Int)))<0))then
  ou 0 [(.int (-1))]
 else
  (z0Y (fun l2=>
    if (decide ((gd l2 1).i<((D.lst (xs.map f)).l.length:Int)))then
     if (inb (gd l2 1).i (D.lst (xs.map f)).l.length)then
     (e [(gd (D.lst (xs.map f)).l (gd l2 1).i.toNat),(gd l2 0)]).bind fun r4=>
     if (decide (r4.i<0))then
      ou 1 [(.int (-1))]
     else
      ou 0 [r4,(.int (IntKind.wrap .i64 ((gd l2 1).i+1)))]
     else none
    else
     ou 2 [(gd l2 0)]) [(.int (IntKind.wrap .i64 ((D.int left).i-((D.lst (xs.map f)).l.length:Int)))),(.int 0)]).bind fun o2=>
  sel2 o2.1 (ou 0 [(gd o2.2 0)]) fun n4=>
  sel2 n4 (ou 0 [(gd o2.2 0)]) fun _=>none)=some (.int (szL c (xs.map f) left)):=by
 have hw:=z7W h0 h1 hl
 have hlen:(D.lst (xs.map f)).l.length=(xs.map f).length:=rfl
 have hlen':(xs.map f).length=xs.length:=by simp
 rw[hlen]
 have hw':IntKind.wrap .i64 (left-((xs.map f).length:Int))=left-(xs.map f).length:=by rw[hlen']; exact hw
 by_cases hlt:left-((xs.map f).length:Int)<0
 ·refine z0F (by rw[D.i_int,hw']; exact decide_eq_true hlt) ?_;unfold szL;rw[if_pos hlt]; rfl
 ·refine z05 (by rw[D.i_int,hw']; exact fun hc=>hlt (of_decide_eq_true hc)) ?_;simp only[D.l_lst,D.i_int,hw'];refine z0E (zQQ (c:=c) hlt h1 ?_ ?_ ?_) ?_
  ·intro x hx' s h1 h2;obtain⟨y,hy,rfl⟩:=List.mem_map.1 hx';exact(hQ y s h1 h2).1
  ·intro i s hi h1 h2;have hi':i<xs.length:=by simpa using hi
   have hg:(xs.map f)[i]=f xs[i]:=by simp
   have hz:=hc _ (List.getElem_mem hi') s h1 h2;rw[hg];constructor <;> intro hc <;> simp[hi',z2Q hi',z0A hi',z0B hi' hl,hz,hc]
  ·intro s; simp
  ·rcases zO5 c (xs.map f) left with h | h <;> simp[h]
theorem zTF {α:Type} {f:α->D} {c:Int->D->Int} {Q:α->Prop} (hinj:∀x y:α,f x=f y->x=y) (hQ:SzOk f c Q) (xs:List α) {left:Int} (h0:0<=left) (h1:left<=lim) :
 szL c (xs.map f) left<=left/\(0<=szL c (xs.map f) left->xs.length<=lim/\∀x∈xs,Q x):=by
 have hs:=zQR (c:=c) (Q:=fun d=>∃y:α,d=f y/\Q y) (xs:=xs.map f) (left:=left) h1 (by
  intro x hx' s h1 h2;obtain⟨y,hy,rfl⟩:=List.mem_map.1 hx';exact⟨(hQ y s h1 h2).1,fun h=>⟨y,rfl,(hQ y s h1 h2).2 h⟩⟩) h0
 refine⟨hs.1,fun hp=>?_⟩
 have:=hs.2 hp
 refine⟨by simpa using this.1,fun x hx=>?_⟩
 obtain⟨y,hy,hyl⟩:=this.2 (f x) (List.mem_map.2 ⟨x,hx,rfl⟩)
 rw[hinj _ _ hy]; exact hyl
theorem zSu {a b:Int} {e:Int->Option D} {k:D->Outc} (he:0<=a->e a=some (.int b)) (hk:k=fun r3=>if decide (r3.i<0)then ou 0 [.int (-1)]else ou 0 [r3]) :
 rn (if decide ((D.int a).i<0)then ou 0 [.int (-1)]else(e a).bind k)=some (.int (if a<0 then -1 else if b<0 then -1 else b)):=by
 subst hk
 by_cases h:a<0
 ·rw[if_pos h]; exact z0F (decide_eq_true h) rfl
 ·rw[if_neg h];refine z05 (fun h'=>h (of_decide_eq_true h')) (z04 (he (by omega)) ?_);by_cases h2:b<0
  ·rw[if_pos h2]; exact z0F (decide_eq_true h2) rfl
  ·rw[if_neg h2]; exact z05 (fun h'=>h2 (of_decide_eq_true h')) rfl
structure Dif where
 fr:Int
 to':Int
 dels:List Rec
 adds:List Rec
def Dif.d (x:Dif):D:=.pair (.int x.fr) (.pair (.int x.to') (.pair (.lst (x.dels.map Rec.d)) (.pair (.lst (x.adds.map Rec.d)) .unit)))
def Dif.nul:Dif:=⟨0,0,[],[]⟩
structure RIn (B:Nat) (l:List Rec):Prop where
 len:l.length<=B
 all:∀r∈l,r.In B
structure Dif.In (B:Nat) (x:Dif):Prop where
 dels:RIn B x.dels
 adds:RIn B x.adds
structure Jrn where
 apex:List UInt8
 first:Int
 diffs:List Dif
def Jrn.d (j:Jrn):D:=.pair (.str j.apex) (.pair (.int j.first) (.pair (.lst (j.diffs.map Dif.d)) .unit))
structure Jrn.In (B:Nat) (j:Jrn):Prop where
 apex:j.apex.length<=B
 len:j.diffs.length<=B
 all:∀x∈j.diffs,x.In B
structure Edg where
 zone:Zn
 saved:Zn
def Edg.d (x:Edg):D:=.pair x.zone.d (.pair x.saved.d .unit)
def Edg.nul:Edg:=⟨⟨[],0,[]⟩,⟨[],0,[]⟩⟩
structure Edg.In (B:Nat) (x:Edg):Prop where
 zone:x.zone.In B
 saved:x.saved.In B
structure Prc where
 to':Int
 whole:Bool
 zone:Zn
 diff:Dif
def Prc.d (x:Prc):D:=.pair (.int x.to') (.pair (.bool x.whole) (.pair x.zone.d (.pair x.diff.d .unit)))
def Prc.nul:Prc:=⟨0,false,⟨[],0,[]⟩,Dif.nul⟩
structure Prc.In (B:Nat) (x:Prc):Prop where
 zone:x.zone.In B
 diff:x.diff.In B
structure Flt where
 ctl:Ctl
 jrn:Jrn
 edges:List Edg
 parcels:List Prc
def Flt.d (f:Flt):D:=.pair f.ctl.d (.pair f.jrn.d (.pair (.lst (f.edges.map Edg.d)) (.pair (.lst (f.parcels.map Prc.d)) .unit)))
structure Flt.In (B:Nat) (f:Flt):Prop where
 ctl:f.ctl.In B
 jrn:f.jrn.In B
 elen:f.edges.length<=B
 eall:∀x∈f.edges,x.In B
 plen:f.parcels.length<=B
 pall:∀x∈f.parcels,x.In B
theorem RIn.smax {l:List Rec} (h:RIn lim l):RIn smax l:=⟨Nat.le_trans h.len z0R,fun r hr=>⟨Nat.le_trans (h.all r hr).name z0R,Nat.le_trans (h.all r hr).data z0R⟩⟩
theorem Dif.In.smax {x:Dif} (h:x.In lim):x.In smax:=⟨h.dels.smax,h.adds.smax⟩
abbrev tDif:T:=.pair (.int .i64) (.pair (.int .i64) (.pair (.lst false tRec) (.pair (.lst false tRec) .unit)))
abbrev tJrn:T:=.pair .str (.pair (.int .i64) (.pair (.lst false tDif) .unit))
abbrev tEdg:T:=.pair zTG (.pair zTG .unit)
abbrev tPrc:T:=.pair (.int .i64) (.pair .bool (.pair zTG (.pair tDif .unit)))
abbrev tFlt:T:=.pair tCtl (.pair tJrn (.pair (.lst false tEdg) (.pair (.lst false tPrc) .unit)))
theorem zSr {B:Nat} {o:Bool} {d:D} (h:Sm B (.lst o tRec) d):∃l:List Rec,d=.lst (l.map Rec.d)/\RIn B l:=by
 obtain⟨xs,rfl,hl,hc⟩:=h
 obtain⟨ys,rfl,hys⟩:=zAj (g:=Rec.d) (Q:=fun r=>r.In B) (fun x hx=>zUb (hc x hx))
 exact⟨ys,rfl,by simpa using hl,hys⟩
theorem zUS {B:Nat} {d:D} (h:Sm B tDif d):∃x:Dif,d=x.d/\x.In B:=by
 obtain⟨_,_,rfl,⟨a,rfl,_⟩,_,_,rfl,⟨b,rfl,_⟩,_,_,rfl,h1,_,_,rfl,h2,rfl⟩:=h
 obtain⟨l,rfl,hl⟩:=zSr h1
 obtain⟨m,rfl,hm⟩:=zSr h2
 exact⟨⟨a,b,l,m⟩,rfl,hl,hm⟩
theorem zVf {B:Nat} {d:D} (h:Sm B tJrn d):∃x:Jrn,d=x.d/\x.In B:=by
 obtain⟨_,_,rfl,⟨s,rfl,hs⟩,_,_,rfl,⟨n,rfl,_⟩,_,_,rfl,⟨xs,rfl,hl,hc⟩,rfl⟩:=h
 obtain⟨ys,rfl,hys⟩:=zAj (g:=Dif.d) (Q:=fun r=>r.In B) (fun x hx=>zUS (hc x hx))
 exact⟨⟨s,n,ys⟩,rfl,hs,by simpa using hl,hys⟩
theorem zVR {B:Nat} {d:D} (h:Sm B tEdg d):∃x:Edg,d=x.d/\x.In B:=by
 obtain⟨_,_,rfl,h1,_,_,rfl,h2,rfl⟩:=h
 obtain⟨a,rfl,ha⟩:=zMA h1
 obtain⟨b,rfl,hb⟩:=zMA h2
 exact⟨⟨a,b⟩,rfl,ha,hb⟩
theorem zVl {B:Nat} {d:D} (h:Sm B tPrc d):∃x:Prc,d=x.d/\x.In B:=by
 obtain⟨_,_,rfl,⟨n,rfl,_⟩,_,_,rfl,⟨b,rfl⟩,_,_,rfl,h1,_,_,rfl,h2,rfl⟩:=h
 obtain⟨z,rfl,hz⟩:=zMA h1
 obtain⟨x,rfl,hx⟩:=zUS h2
 exact⟨⟨n,b,z,x⟩,rfl,hz,hx⟩
theorem zVZ {B:Nat} {d:D} (h:Sm B tFlt d):∃f:Flt,d=f.d/\f.In B:=by
 obtain⟨_,_,rfl,h1,_,_,rfl,h2,_,_,rfl,⟨es,rfl,hel,hec⟩,_,_,rfl,⟨ps,rfl,hpl,hpc⟩,rfl⟩:=h
 obtain⟨c,rfl,hc⟩:=zVQ h1
 obtain⟨j,rfl,hj⟩:=zVf h2
 obtain⟨es',rfl,he⟩:=zAj (g:=Edg.d) (Q:=fun r=>r.In B) (fun x hx=>zVR (hec x hx))
 obtain⟨ps',rfl,hp⟩:=zAj (g:=Prc.d) (Q:=fun r=>r.In B) (fun x hx=>zVl (hpc x hx))
 exact⟨⟨c,j,es',ps'⟩,rfl,hc,hj,by simpa using hel,he,by simpa using hpl,hp⟩
theorem zLu {a b:List Rec} (h:a.map Rec.d=b.map Rec.d):a=b:=(List.map_inj_right (fun _ _=>Rec.d_inj)).1 h
theorem Zn.d_inj {x y:Zn} (h:x.d=y.d):x=y:=by
 obtain⟨a,b,c⟩:=x
 obtain⟨a',b',c'⟩:=y
 simp only[Zn.d,D.pair.injEq,D.str.injEq,D.int.injEq,D.lst.injEq]at h
 obtain⟨h1,h2,h3,_⟩:=h
 have:=zLu h3
 subst h1; subst h2; subst this; rfl
theorem Dif.d_inj {x y:Dif} (h:x.d=y.d):x=y:=by
 obtain⟨a,b,c,e⟩:=x
 obtain⟨a',b',c',e'⟩:=y
 simp only[Dif.d,D.pair.injEq,D.int.injEq,D.lst.injEq]at h
 obtain⟨h1,h2,h3,h4,_⟩:=h
 have h3:=zLu h3
 have h4:=zLu h4
 subst h1; subst h2; subst h3; subst h4; rfl
theorem Edg.d_inj {x y:Edg} (h:x.d=y.d):x=y:=by
 obtain⟨a,b⟩:=x
 obtain⟨a',b'⟩:=y
 simp only[Edg.d,D.pair.injEq]at h
 obtain⟨h1,h2,_⟩:=h
 have h1:=Zn.d_inj h1
 have h2:=Zn.d_inj h2
 subst h1; subst h2; rfl
theorem Prc.d_inj {x y:Prc} (h:x.d=y.d):x=y:=by
 obtain⟨a,b,c,e⟩:=x
 obtain⟨a',b',c',e'⟩:=y
 simp only[Prc.d,D.pair.injEq,D.int.injEq,D.bool.injEq]at h
 obtain⟨h1,h2,h3,h4,_⟩:=h
 have h3:=Zn.d_inj h3
 have h4:=Dif.d_inj h4
 subst h1; subst h2; subst h3; subst h4; rfl
theorem zPr {x:Dif} (hx:x.In smax):z3b.F [x.d,x.d]=some (.bool true):=by
 rw[zLZ,if_neg (by simp),if_neg (by simp)]
 exact z04 (zAT hx.dels.len) (z05 (by simp) (z04 (zAT hx.adds.len) (z05 (by simp) rfl)))
theorem zRr {xs:List Dif} (hl:xs.length<=smax) (hx:∀x∈xs,x.In smax):z5c.F [.lst (xs.map Dif.d),.lst (xs.map Dif.d)]=some (.bool true):=by
 rw[zJV]; exact zOO (c:=z3b.F) hl fun x h=>zPr (hx x h)
theorem zOd {j:Jrn} (hj:j.In smax):z4Z.F [j.d,j.d]=some (.bool true):=by
 rw[zFJ,if_neg (by simp),if_neg (by simp)]
 exact z04 (zRr hj.len hj.all) (z05 (by simp) rfl)
theorem zTg {x:Edg} (hx:x.In smax):z5N.F [x.d,x.d]=some (.bool true):=by
 rw[zLb]
 exact z04 (zFq hx.zone.len) (z05 (by simp) (z04 (zFq hx.saved.len) (z05 (by simp) rfl)))
theorem zRt {xs:List Edg} (hl:xs.length<=smax) (hx:∀x∈xs,x.In smax):z5e.F [.lst (xs.map Edg.d),.lst (xs.map Edg.d)]=some (.bool true):=by
 rw[zJX]; exact zOO (c:=z5N.F) hl fun x h=>zTg (hx x h)
theorem zQc {x:Prc} (hx:x.In smax):z4A.F [x.d,x.d]=some (.bool true):=by
 rw[zHy,if_neg (by simp),if_neg (by simp)]
 exact z04 (zFq hx.zone.len) (z05 (by simp) (z04 (zPr hx.diff) (z05 (by simp) rfl)))
theorem zOe {xs:List Prc} (hl:xs.length<=smax) (hx:∀x∈xs,x.In smax):z4a.F [.lst (xs.map Prc.d),.lst (xs.map Prc.d)]=some (.bool true):=by
 rw[zFK]; exact zOO (c:=z4A.F) hl fun x h=>zQc (hx x h)
theorem zMX {f:Flt} (hf:f.In smax):z2T.F [f.d,f.d]=some (.bool true):=by
 rw[zJY]
 exact z04 (zOc hf.ctl) (z05 (by simp) (z04 (zOd hf.jrn) (z05 (by simp) (z04 (zRt hf.elen hf.eall) (z05 (by simp) (z04 (zOe hf.plen hf.pall) (z05 (by simp) rfl)))))))
theorem zPv {x:Dif} (hx:x.In lim):z3h.F [x.d]=some x.d:=by
 rw[zLg]
 exact z04 (zAZ hx.dels.len) (z04 (zAZ hx.adds.len) rfl)
theorem zS5 {xs:List Dif} (hl:xs.length<=lim) (hx:∀x∈xs,x.In lim):z5j.F [.lst (xs.map Dif.d)]=some (.lst (xs.map Dif.d)):=by
 rw[zJd]; exact zPY (c:=z3h.F) (by decide) hl fun x h=>zPv (hx x h)
theorem zOp {j:Jrn} (hj:j.In lim):z4l.F [j.d]=some j.d:=by
 rw[zFZ]
 exact z04 (zS5 hj.len hj.all) rfl
theorem zTq {x:Edg} (hx:x.In lim):z5P.F [x.d]=some x.d:=by
 rw[zLi]
 exact z04 (zFs hx.zone.len) (z04 (zFs hx.saved.len) rfl)
theorem zS7 {xs:List Edg} (hl:xs.length<=lim) (hx:∀x∈xs,x.In lim):z5l.F [.lst (xs.map Edg.d)]=some (.lst (xs.map Edg.d)):=by
 rw[zJf]; exact zPY (c:=z5P.F) (by decide) hl fun x h=>zTq (hx x h)
theorem zQp {x:Prc} (hx:x.In lim):z4C.F [x.d]=some x.d:=by
 rw[zI5]
 exact z04 (zFs hx.zone.len) (z04 (zPv hx.diff) rfl)
theorem zOq {xs:List Prc} (hl:xs.length<=lim) (hx:∀x∈xs,x.In lim):z4m.F [.lst (xs.map Prc.d)]=some (.lst (xs.map Prc.d)):=by
 rw[zFa]; exact zPY (c:=z4C.F) (by decide) hl fun x h=>zQp (hx x h)
theorem zS8 {f:Flt} (hf:f.In lim):z36.F [f.d]=some f.d:=by
 rw[zJg]
 exact z04 (zOo hf.ctl) (z04 (zOp hf.jrn) (z04 (zS7 hf.elen hf.eall) (z04 (zOq hf.plen hf.pall) rfl)))
def two (a b:Int):Int:=if a<0 then -1 else if b<0 then -1 else b
theorem zTL {a b s:Int} (ha:a<=s) (hb:0<=a->b<=a) (hs:0<=s):two a b<=s/\(0<=two a b->0<=a/\0<=b):=by
 unfold two
 by_cases h:a<0
 ·rw[if_pos h]; omega
 ·rw[if_neg h];have:=hb (by omega);by_cases h2:b<0
  ·rw[if_pos h2]; omega
  ·rw[if_neg h2]; omega
def zPT (s:Int) (x:D):Int:=two (szL z89 (x.fld 2).l s) (szL z89 (x.fld 3).l (szL z89 (x.fld 2).l s))
theorem zPu {x:Dif} {left:Int} (hx:x.In smax) (h0:0<=left) (h1:left<=lim):z30.F [x.d,.int left]=some (.int (zPT left x.d)):=by
 rw[zLd]
 have f2:x.d.fld 2=.lst (x.dels.map Rec.d):=rfl
 have f3:x.d.fld 3=.lst (x.adds.map Rec.d):=rfl
 unfold zPT two
 rw[f2,f3]
 have hs:=z8v (xs:=x.dels) h0 h1
 exact z04 (zAY hx.dels.len hx.dels.all h0 h1) (zSu (e:=fun a=>z1X.F [.lst (x.adds.map Rec.d),.int a]) (fun h=>zAY hx.adds.len hx.adds.all h (by have:=hs.1; show szL z89 (x.dels.map Rec.d) left<=lim; omega)) rfl)
theorem zM5:SzOk Dif.d zPT (fun x=>x.In lim):=by
 intro x s h0 h1
 have f2:x.d.fld 2=.lst (x.dels.map Rec.d):=rfl
 have f3:x.d.fld 3=.lst (x.adds.map Rec.d):=rfl
 unfold zPT
 rw[f2,f3]
 simp only[D.l_lst]
 have hs:=z8v (xs:=x.dels) h0 h1
 have hb:0<=szL z89 (x.dels.map Rec.d) s->_:=fun h=>z8v (xs:=x.adds) (left:=szL z89 (x.dels.map Rec.d) s) h (by have:=hs.1; omega)
 have ht:=zTL hs.1 (fun h=>(hb h).1) h0
 refine⟨ht.1,fun h=>?_⟩
 obtain⟨h2,h3⟩:=ht.2 h
 exact⟨⟨(hs.2 h2).1,(hs.2 h2).2⟩,⟨((hb h2).2 h3).1,((hb h2).2 h3).2⟩⟩
theorem zS1 {xs:List Dif} {left:Int} (hl:xs.length<=smax) (hx:∀x∈xs,x.In smax) (h0:0<=left) (h1:left<=lim):z5f.F [.lst (xs.map Dif.d),.int left]=some (.int (szL zPT (xs.map Dif.d) left)):=by
 rw[zJZ]; exact zPU (e:=z30.F) zM5 hl h0 h1 fun x h s a b=>zPu (hx x h) a b
theorem zOm {j:Jrn} {left:Int} (hj:j.In smax) (h0:0<=left) (h1:left<=lim):∃r,z4i.F [j.d,.int left]=some (.int r)/\r<=left/\(0<=r->j.In lim):=by
 rw[zFV]
 have hw:=z7W h0 h1 hj.apex
 have f0:(j.d.fld 0).s=j.apex:=rfl
 have f2:j.d.fld 2=.lst (j.diffs.map Dif.d):=rfl
 simp only[f0,f2,D.i_int,hw]
 by_cases h:left-(j.apex.length:Int)<0
 ·exact⟨-1,z0F (decide_eq_true h) rfl,by omega,by omega⟩
 ·have hz:=zS1 hj.len hj.all (left:=left-(j.apex.length:Int)) (by omega) (by omega);have hs:=zTF (f:=Dif.d) (fun _ _=>Dif.d_inj) zM5 j.diffs (left:=left-(j.apex.length:Int)) (by omega) (by omega);by_cases h2:szL zPT (j.diffs.map Dif.d) (left-(j.apex.length:Int))<0
  ·exact⟨-1,z05 (fun hc=>h (of_decide_eq_true hc)) (z04 hz (z0F (decide_eq_true h2) rfl)),by omega,by omega⟩
  ·exact⟨_,z05 (fun hc=>h (of_decide_eq_true hc)) (z04 hz (z05 (fun hc=>h2 (of_decide_eq_true hc)) rfl)),by omega,fun hp=>⟨by omega,(hs.2 hp).1,(hs.2 hp).2⟩⟩
def zM6 (s:Int) (x:D):Int:=two (szZn s (x.fld 0)) (szZn (szZn s (x.fld 0)) (x.fld 1))
theorem zTo {x:Edg} {left:Int} (hx:x.In smax) (h0:0<=left) (h1:left<=lim):z5O.F [x.d,.int left]=some (.int (zM6 left x.d)):=by
 rw[zLe]
 have f0:x.d.fld 0=x.zone.d:=rfl
 have f1:x.d.fld 1=x.saved.d:=rfl
 unfold zM6 two
 rw[f0,f1]
 have hs:=z8V (z:=x.zone) left h0 h1
 exact z04 (zFr hx.zone h0 h1) (zSu (e:=fun a=>z1g.F [x.saved.d,.int a]) (fun h=>zFr hx.saved h (by have:=hs.1; omega)) rfl)
theorem zQP:SzOk Edg.d zM6 (fun x=>x.In lim):=by
 intro x s h0 h1
 have f0:x.d.fld 0=x.zone.d:=rfl
 have f1:x.d.fld 1=x.saved.d:=rfl
 unfold zM6
 rw[f0,f1]
 have hs:=z8V (z:=x.zone) s h0 h1
 have hb:0<=szZn s x.zone.d->_:=fun h=>z8V (z:=x.saved) (szZn s x.zone.d) h (by have:=hs.1; omega)
 have ht:=zTL hs.1 (fun h=>(hb h).1) h0
 refine⟨ht.1,fun h=>?_⟩
 obtain⟨h2,h3⟩:=ht.2 h
 exact⟨hs.2 h2,(hb h2).2 h3⟩
theorem zS3 {xs:List Edg} {left:Int} (hl:xs.length<=smax) (hx:∀x∈xs,x.In smax) (h0:0<=left) (h1:left<=lim):z5h.F [.lst (xs.map Edg.d),.int left]=some (.int (szL zM6 (xs.map Edg.d) left)):=by
 rw[zJb]; exact zPU (e:=z5O.F) zQP hl h0 h1 fun x h s a b=>zTo (hx x h) a b
def zRJ (s:Int) (x:D):Int:=two (szZn s (x.fld 2)) (zPT (szZn s (x.fld 2)) (x.fld 3))
theorem zQn {x:Prc} {left:Int} (hx:x.In smax) (h0:0<=left) (h1:left<=lim):z4B.F [x.d,.int left]=some (.int (zRJ left x.d)):=by
 rw[zI3]
 have f0:x.d.fld 2=x.zone.d:=rfl
 have f1:x.d.fld 3=x.diff.d:=rfl
 unfold zRJ two
 rw[f0,f1]
 have hs:=z8V (z:=x.zone) left h0 h1
 exact z04 (zFr hx.zone h0 h1) (zSu (e:=fun a=>z30.F [x.diff.d,.int a]) (fun h=>zPu hx.diff h (by have:=hs.1; omega)) rfl)
theorem zQS:SzOk Prc.d zRJ (fun x=>x.In lim):=by
 intro x s h0 h1
 have f0:x.d.fld 2=x.zone.d:=rfl
 have f1:x.d.fld 3=x.diff.d:=rfl
 unfold zRJ
 rw[f0,f1]
 have hs:=z8V (z:=x.zone) s h0 h1
 have hb:0<=szZn s x.zone.d->_:=fun h=>zM5 x.diff (szZn s x.zone.d) h (by have:=hs.1; omega)
 have ht:=zTL hs.1 (fun h=>(hb h).1) h0
 refine⟨ht.1,fun h=>?_⟩
 obtain⟨h2,h3⟩:=ht.2 h
 exact⟨hs.2 h2,(hb h2).2 h3⟩
theorem zOn {xs:List Prc} {left:Int} (hl:xs.length<=smax) (hx:∀x∈xs,x.In smax) (h0:0<=left) (h1:left<=lim):z4j.F [.lst (xs.map Prc.d),.int left]=some (.int (szL zRJ (xs.map Prc.d) left)):=by
 rw[zFW]; exact zPU (e:=z4B.F) zQS hl h0 h1 fun x h s a b=>zQn (hx x h) a b
theorem zMp {c:Ctl} {left:Int} (hc:c.In smax) (h0:0<=left) (h1:left<=lim):∃r,z4h.F [c.d,.int left]=some (.int r)/\r<=left/\(0<=r->c.In lim):=by
 rw[zFU]
 have f0:c.d.fld 0=c.zone.d:=rfl
 have f1:c.d.fld 1=.lst (c.last.map Dn.d):=rfl
 rw[f0,f1]
 have hz:=zFr (left:=left) hc.zone h0 h1
 have hzs:=z8V (z:=c.zone) left h0 h1
 by_cases hlt:szZn left c.zone.d<0
 ·exact⟨-1,z04 hz (z0F (decide_eq_true hlt) rfl),by omega,by omega⟩
 ·obtain⟨r,hr,hle,hrl⟩:=zS2 (left:=szZn left c.zone.d) hc.len (by omega) (by omega);by_cases hlt2:r<0
  ·exact⟨-1,z04 hz (z05 (fun h=>hlt (of_decide_eq_true h)) (z04 hr (z0F (decide_eq_true hlt2) rfl))),by omega,by omega⟩
  ·exact⟨r,z04 hz (z05 (fun h=>hlt (of_decide_eq_true h)) (z04 hr (z05 (fun h=>hlt2 (of_decide_eq_true h)) rfl))),by omega,fun hp=>⟨hzs.2 (by omega),hrl hp⟩⟩
theorem zS4 {f:Flt} {left:Int} (hf:f.In smax) (h0:0<=left) (h1:left<=lim):∃r,z5i.F [f.d,.int left]=some (.int r)/\(0<=r->f.In lim):=by
 rw[zJc]
 have f0:f.d.fld 0=f.ctl.d:=rfl
 have f1:f.d.fld 1=f.jrn.d:=rfl
 have f2:f.d.fld 2=.lst (f.edges.map Edg.d):=rfl
 have f3:f.d.fld 3=.lst (f.parcels.map Prc.d):=rfl
 rw[f0,f1,f2,f3]
 obtain⟨a,ha,hal,haQ⟩:=zMp hf.ctl h0 h1
 by_cases h2:a<0
 ·exact⟨-1,z04 ha (z0F (decide_eq_true h2) rfl),by omega⟩
 obtain⟨b,hb,hbl,hbQ⟩:=zOm (left:=a) hf.jrn (by omega) (by omega)
 by_cases h3:b<0
 ·exact⟨-1,z04 ha (z05 (fun h=>h2 (of_decide_eq_true h)) (z04 hb (z0F (decide_eq_true h3) rfl))),by omega⟩
 have hc:=zS3 (left:=b) hf.elen hf.eall (by omega) (by omega)
 have hcs:=zTF (f:=Edg.d) (fun _ _=>Edg.d_inj) zQP f.edges (left:=b) (by omega) (by omega)
 by_cases h4:szL zM6 (f.edges.map Edg.d) b<0
 ·exact⟨-1,z04 ha (z05 (fun h=>h2 (of_decide_eq_true h)) (z04 hb (z05 (fun h=>h3 (of_decide_eq_true h)) (z04 hc (z0F (decide_eq_true h4) rfl))))),by omega⟩
 have hd:=zOn (left:=szL zM6 (f.edges.map Edg.d) b) hf.plen hf.pall (by omega) (by omega)
 have hds:=zTF (f:=Prc.d) (fun _ _=>Prc.d_inj) zQS f.parcels (left:=szL zM6 (f.edges.map Edg.d) b) (by omega) (by omega)
 by_cases h5:szL zRJ (f.parcels.map Prc.d) (szL zM6 (f.edges.map Edg.d) b)<0
 ·exact⟨-1,z04 ha (z05 (fun h=>h2 (of_decide_eq_true h)) (z04 hb (z05 (fun h=>h3 (of_decide_eq_true h)) (z04 hc (z05 (fun h=>h4 (of_decide_eq_true h)) (z04 hd (z0F (decide_eq_true h5) rfl))))))),by omega⟩
 ·exact⟨_,z04 ha (z05 (fun h=>h2 (of_decide_eq_true h)) (z04 hb (z05 (fun h=>h3 (of_decide_eq_true h)) (z04 hc (z05 (fun h=>h4 (of_decide_eq_true h)) (z04 hd (z05 (fun h=>h5 (of_decide_eq_true h)) rfl))))))),fun hp=>
   ⟨haQ (by omega),hbQ (by omega),(hcs.2 (by omega)).1,(hcs.2 (by omega)).2,(hds.2 hp).1,(hds.2 hp).2⟩⟩
end Go.Proofs.YtcnjllnhfoiojaaGreatDoor
namespace Go.Proofs.YtcnjllnhfoiojaaGreatDoor
open Go Go.Own
def cntB (n:Int):Bool:=inP n 0 1152921504606846976
theorem zAX (n:Int):z1w.F [.int n]=some (.bool (cntB n)):=by
 rw[zFj]; exact z04 (z7y n 0 1152921504606846976) rfl
def hasR (l:List Rec) (r:Rec):Bool:=l.any fun x=>D.beq x.d r.d
theorem zPd (x r:Rec):D.beq x.d r.d=D.beq r.d x.d:=by
 rw[Bool.eq_iff_iff,zDj,zDj]; exact⟨Eq.symm,Eq.symm⟩
theorem zGC {l:List Rec} {r:Rec} (hl:l.length<=smax):z0N.F [.lst (l.map Rec.d),r.d]=some (.bool (hasR l r)):=by
 rw[z4y]
 have hidx:∃n:Int,z0p.F [.lst (l.map Rec.d),r.d]=some (.int n)/\decide (n >= 0)=hasR l r:=by
  rw[z5Y];have hlen:(D.lst (l.map Rec.d)).l.length=l.length:=by simp
  rw[hlen];rcases z6w (l:=[.int 0]) (fun i=>[.int i]) l.length (fun i=>!(D.beq r.d (l.getD i Rec.nul).d)) (t1:=0) (t2:=1) (o1:=fun i=>[.int i]) (o2:=[]) (f:=fun l2=>
   if (decide ((gd l2 0).i<(l.length:Int)))then
    if (inb (gd l2 0).i l.length)then
    if (D.beq r.d (gd (D.lst (l.map Rec.d)).l (gd l2 0).i.toNat))then
     ou 1 [(gd l2 0)]
    else
     ou 0 [(.int (IntKind.wrap .i64 ((gd l2 0).i+1)))]
    else none
   else
    ou 2 []) rfl (by
    intro i hi hp;rw[z0H hi]at hp;have e0:(gd [D.int (i:Int)] 0).i.toNat=i:=by simp
    have e1:(gd [D.int (i:Int)] 0).i=i:=rfl;rw[e0,e1,D.l_lst,z4K hi,z0B hi hl];exact z03 (by simpa using hi) (z03 (by simpa using z0A hi) (z00 (by simpa using hp) rfl))) (by
    intro i hi hp;rw[z0H hi]at hp;have e0:(gd [D.int (i:Int)] 0).i.toNat=i:=by simp
    rw[e0,D.l_lst,z4K hi];exact z03 (by simpa using hi) (z03 (by simpa using z0A hi) (z03 (by simpa using hp) rfl))) (by exact z00 (by simp) rfl)with ⟨hall,hloop⟩ | ⟨j,hj,hpj,_,hloop⟩
  ·refine⟨-1,z0E hloop rfl,?_⟩;have:hasR l r=false:=by
    unfold hasR;rw[List.any_eq_false];intro x hx;obtain⟨i,hi,rfl⟩:=List.getElem_of_mem hx;have:=hall i hi;rw[z0H hi,zPd]at this;simpa using this
   rw[this]; rfl
  ·refine⟨j,z0E hloop rfl,?_⟩;rw[z0H hj,zPd]at hpj;have:hasR l r=true:=by
    unfold hasR;rw[List.any_eq_true];exact⟨_,List.getElem_mem hj,by simpa using hpj⟩
   rw[this]; simp
 obtain⟨n,h1,h2⟩:=hidx
 refine z04 h1 ?_
 rw[<- h2]; rfl
theorem zKZ {l:List Rec} {r:Rec} (hl:l.length<=smax):z1b.F [.lst (l.map Rec.d),r.d]=some (.bool (hasR l r)):=by
 rw[zNg]
 have hlen:(D.lst (l.map Rec.d)).l.length=l.length:=by simp
 rw[hlen]
 refine z0E (z1l (fun i=>[.int i]) l.length (fun i=>!(D.beq (l.getD i Rec.nul).d r.d)) (t1:=0) (t2:=1) (o1:=[.bool true]) (o2:=[]) rfl ?_ (by exact z00 (by simp) rfl)) ?_
 ·intro i hi;rw[z0H hi];have e0:(gd [D.int (i:Int)] 0).i.toNat=i:=by simp
  have e1:(gd [D.int (i:Int)] 0).i=i:=rfl;rw[e0,e1,D.l_lst,z4K hi,z0B hi hl];refine z03 (by simpa using hi) (z03 (by simpa using z0A hi) ?_)
  cases hq:D.beq l[i].d r.d with
  | true=>exact z03 rfl rfl
  | false=>exact z00 (by simp) rfl
 ·have:allN l.length (fun i=>!(D.beq (l.getD i Rec.nul).d r.d)) = !(hasR l r):=by
   rw[z50 l (fun x=>!(D.beq x.d r.d)) Rec.nul];unfold hasR;rw[List.not_any_eq_all_not]
  rw[this]
  cases hasR l r <;> rfl
noncomputable def Dif.good (x:Dif):Bool:=cntB x.fr&&(cntB x.to'&&(!decide (x.fr=x.to')&&((z3u x.dels&&decide (x.dels.length<=40))&&((z3u x.adds&&decide (x.adds.length<=40)) && !(x.dels.any (hasR x.adds))))))
theorem zTi {x:Dif} (hx:x.In lim):z6F.F [x.d]=some (.bool (cntB x.fr&&(cntB x.to'&&(!decide (x.fr=x.to')&&((z3u x.dels&&decide (x.dels.length<=40))&&(z3u x.adds&&decide (x.adds.length<=40))))))):=by
 rw[zLX]
 have f0:x.d.fld 0=.int x.fr:=rfl
 have f1:x.d.fld 1=.int x.to':=rfl
 have f2:x.d.fld 2=.lst (x.dels.map Rec.d):=rfl
 have f3:x.d.fld 3=.lst (x.adds.map Rec.d):=rfl
 have hll:∀us:List Rec,(D.lst (us.map Rec.d)).l.length=us.length:=fun us=>by simp
 rw[f0,f1,f2,f3,hll,hll]
 have h1:=z8c x.fr
 have h2:=z8c x.to'
 have h3:=zAS hx.dels.len hx.dels.all
 have h4:=zAS hx.adds.len hx.adds.all
 rw[show inP x.fr 0 1152921504606846976=cntB x.fr from rfl]at h1
 rw[show inP x.to' 0 1152921504606846976=cntB x.to' from rfl]at h2
 refine z06 (l:=[.bool (cntB x.fr&&(cntB x.to'&&(!decide (x.fr=x.to')&&((z3u x.dels&&decide (x.dels.length<=40))&&(z3u x.adds&&decide (x.adds.length<=40))))))]) ?_ rfl
 cases k1:cntB x.fr with
 | false=>rw[k1]at h1; exact z01 h1 (z00 (by simp) rfl)
 | true=>
   rw[k1]at h1;refine z01 h1 (z03 rfl ?_)
   cases k2:cntB x.to' with
   | false=>rw[k2]at h2; exact z01 h2 (z00 (by simp) rfl)
   | true=>
     rw[k2]at h2;refine z01 h2 (z03 rfl ?_);by_cases k3:x.fr=x.to'
     ·exact z00 (by simp[k3]) (by simp[k3])
     ·refine z03 (by simpa using k3) ?_;have e3:decide (x.fr=x.to')=false:=decide_eq_false k3;rw[e3];by_cases k4:x.dels.length<=40
      ·refine z03 (decide_eq_true (by omega)) ?_;by_cases k5:x.adds.length<=40
       ·refine z03 (decide_eq_true (by omega)) ?_
        cases k6:z3u x.dels with
        | false=>rw[k6]at h3; exact z01 h3 (z00 (by simp) (by simp))
        | true=>rw[k6]at h3; exact z01 h3 (z03 rfl (z01 h4 (by simp[k4,k5])))
       ·exact z00 (fun h=>k5 (by have h':(x.adds.length:Int)<=40:=of_decide_eq_true h; omega)) (by simp[k5])
      ·exact z00 (fun h=>k4 (by have h':(x.dels.length:Int)<=40:=of_decide_eq_true h; omega)) (by simp[k4])
theorem zCf {x:Dif} (hx:x.In lim):z1J.F [x.d]=some (.bool x.good):=by
 rw[zHk]
 have f2:x.d.fld 2=.lst (x.dels.map Rec.d):=rfl
 rw[f2]
 have h1:=zTi hx
 obtain⟨n,i1,i2⟩:=zCw (f:=Rec.d) (c:=fun d=>z3C.F [d,x.d]) (xs:=x.dels) (p:=hasR x.adds) (Nat.le_trans hx.dels.len z0R) (fun r _=>by
  show z3C.F [r.d,x.d]=_;rw[zDc];have f3:x.d.fld 3=.lst (x.adds.map Rec.d):=rfl;rw[f3];exact z04 (zGC (Nat.le_trans hx.adds.len z0R)) rfl)
 have h3:z0Q.F [.lst (x.dels.map Rec.d),.pair x.d .unit]=some (.int n):=by
  rw[z2P]; exact i1
 have h4:z0K.F [.lst (x.dels.map Rec.d),.pair x.d .unit]=some (.bool (x.dels.any (hasR x.adds))):=by
  rw[z1p];refine z04 h3 ?_;rw[<- i2]; rfl
 refine z06 (l:=[.bool x.good]) ?_ rfl
 have hg:x.good=((cntB x.fr&&(cntB x.to'&&(!decide (x.fr=x.to')&&((z3u x.dels&&decide (x.dels.length<=40))&&(z3u x.adds&&decide (x.adds.length<=40)))))) && !(x.dels.any (hasR x.adds))):=by
  unfold Dif.good;simp only[Bool.and_assoc]
 rw[hg]
 cases k:(cntB x.fr&&(cntB x.to'&&(!decide (x.fr=x.to')&&((z3u x.dels&&decide (x.dels.length<=40))&&(z3u x.adds&&decide (x.adds.length<=40))))))with
 | false=>rw[k]at h1; exact z01 h1 (z00 (by simp) rfl)
 | true=>rw[k]at h1; exact z01 h1 (z03 rfl (z01 h4 rfl))
theorem z7z {x:Dif} (hx:x.In lim):z1W.F [x.d]=some (.bool x.good):=by
 have hsm:=Nat.le_trans hx.dels.len z0R
 rw[zI7]
 have f0:x.d.fld 0=.int x.fr:=rfl
 have f1:x.d.fld 1=.int x.to':=rfl
 have f2:x.d.fld 2=.lst (x.dels.map Rec.d):=rfl
 have f3:x.d.fld 3=.lst (x.adds.map Rec.d):=rfl
 have hll:(D.lst (x.dels.map Rec.d)).l=x.dels.map Rec.d:=rfl
 rw[f0,f1,f2,f3]
 simp only[hll,List.length_map,D.i_int]
 have h1:=zAX x.fr
 have h2:=zAX x.to'
 have h3:=zKY hx.dels.len hx.dels.all
 have h4:=zKY hx.adds.len hx.adds.all
 unfold Dif.good
 cases k1:cntB x.fr with
 | false=>rw[k1]at h1; exact z06 (l:=[.bool true]) (z01 h1 (z03 rfl rfl)) (z0F rfl rfl)
 | true=>
   rw[k1]at h1
   cases k2:cntB x.to' with
   | false=>rw[k2]at h2; exact z06 (l:=[.bool true]) (z01 h1 (z00 (by simp) (z01 h2 (z03 rfl rfl)))) (z0F rfl rfl)
   | true=>
     rw[k2]at h2;by_cases k3:x.fr=x.to'
     ·have e3:decide (x.fr=x.to')=true:=decide_eq_true k3;rw[e3];exact z06 (l:=[.bool true]) (z01 h1 (z00 (by simp) (z01 h2 (z00 (by simp) (z03 (by simpa using k3) rfl))))) (z0F rfl rfl)
     ·have e3:decide (x.fr=x.to')=false:=decide_eq_false k3;rw[e3]
      cases k4:(z3u x.dels&&decide (x.dels.length<=40))with
      | false=>rw[k4]at h3; exact z06 (l:=[.bool true]) (z01 h1 (z00 (by simp) (z01 h2 (z00 (by simp) (z00 (by simpa using k3) (z01 h3 (z03 rfl rfl))))))) (z0F rfl rfl)
      | true=>
        rw[k4]at h3
        cases k5:(z3u x.adds&&decide (x.adds.length<=40))with
        | false=>rw[k5]at h4; exact z06 (l:=[.bool true]) (z01 h1 (z00 (by simp) (z01 h2 (z00 (by simp) (z00 (by simpa using k3) (z01 h3 (z00 (by simp) (z01 h4 rfl)))))))) (z0F rfl rfl)
        | true=>
          rw[k5]at h4;refine z06 (l:=[.bool false]) (z01 h1 (z00 (by simp) (z01 h2 (z00 (by simp) (z00 (by simpa using k3) (z01 h3 (z00 (by simp) (z01 h4 rfl)))))))) (z05 (by simp) ?_);refine z0E (z1l (fun i=>[.int i]) x.dels.length (fun i=>!(hasR x.adds (x.dels.getD i Rec.nul))) (t1:=0) (t2:=1) (o1:=[.bool false]) (o2:=[]) rfl ?_ (by exact z00 (by simp) rfl)) ?_
          ·intro i hi;rw[z0H hi];have e0:(gd [D.int (i:Int)] 0).i.toNat=i:=by simp
           have e1:(gd [D.int (i:Int)] 0).i=i:=rfl;rw[e0,e1,z4K hi,z0B hi hsm];refine z03 (by simpa using hi) (z03 (by simpa using z0A hi) (z01 (zKZ (Nat.le_trans hx.adds.len z0R)) ?_))
           cases hasR x.adds x.dels[i]with
           | true=>exact z03 rfl rfl
           | false=>exact z00 (by simp) rfl
          ·have:allN x.dels.length (fun i=>!(hasR x.adds (x.dels.getD i Rec.nul))) = !(x.dels.any (hasR x.adds)):=by
            rw[z50 x.dels (fun r=>!(hasR x.adds r)) Rec.nul,List.not_any_eq_all_not]
           rw[this]
           cases x.dels.any (hasR x.adds) <;> rfl
noncomputable def zDt:Int->List Dif->Bool
 | _,[]=>true
 | s,d::ds=>d.good&&(decide (d.fr=s)&&(decide (s<d.to')&&zDt d.to' ds))
noncomputable def jG (_:Nat) (s:Int) (d:Dif):Sum Int (Nat×List D):=if d.good=true/\d.fr=s/\s<d.to' then .inl d.to' else .inr (0,[.bool false])
theorem zP1:∀(ds:List Dif) (i:Nat) (s:Int),(∃t,z7K jG i s ds=.inl t/\zDt s ds=true)\/(z7K jG i s ds=.inr (0,[.bool false])/\zDt s ds=false)
 | [],i,s=>.inl ⟨s,rfl,rfl⟩
 | d::ds,i,s=>by
   rw[z7K];by_cases h:d.good=true/\d.fr=s/\s<d.to'
   ·have e:jG i s d=.inl d.to':=by unfold jG; rw[if_pos h]
    have e2:zDt s (d::ds)=zDt d.to' ds:=by rw[zDt]; simp[h]
    rw[e,e2];exact zP1 ds (i+1) d.to'
   ·have e:jG i s d=.inr (0,[.bool false]):=by unfold jG; rw[if_neg h]
    rw[e];refine .inr ⟨rfl,?_⟩;unfold zDt;by_cases h1:d.good=true
    ·by_cases h2:d.fr=s
     ·have h3:¬s<d.to':=fun h3=>h ⟨h1,h2,h3⟩;simp[h3]
     ·simp[h2]
    ·simp[h1]
noncomputable def Jrn.body (j:Jrn):Bool:=cntB j.first&&(decide (j.diffs.length<=12)&&zDt j.first j.diffs)
theorem zBO {j:Jrn} (hj:j.In lim):z1T.F [j.d]=some (.bool (z15 j.apex&&j.body)):=by
 have hsm:=Nat.le_trans hj.len z0R
 rw[zCD]
 have f0:j.d.fld 0=.str j.apex:=rfl
 have f1:j.d.fld 1=.int j.first:=rfl
 have f2:(j.d.fld 2).l=j.diffs.map Dif.d:=rfl
 rw[f0,f1]
 simp only[f2,List.length_map]
 have h1:=z9q j.apex
 have h2:=z8c j.first
 rw[show inP j.first 0 1152921504606846976=cntB j.first from rfl]at h2
 unfold Jrn.body
 cases k1:z15 j.apex with
 | false=>rw[k1]at h1; exact z06 (l:=[.bool true]) (z01 h1 (z03 rfl rfl)) (z0F rfl rfl)
 | true=>
   rw[k1]at h1
   cases k2:cntB j.first with
   | false=>rw[k2]at h2; exact z06 (l:=[.bool true]) (z01 h1 (z00 (by simp) (z01 h2 (z03 rfl rfl)))) (z0F rfl rfl)
   | true=>
     rw[k2]at h2;by_cases k3:j.diffs.length<=12
     ·have e3:decide ((j.diffs.length:Int) > 12)=false:=decide_eq_false (by omega);have e3':decide (j.diffs.length<=12)=true:=decide_eq_true k3;rw[e3',Bool.true_and,Bool.true_and,Bool.true_and];refine z06 (l:=[.bool false]) (z01 h1 (z00 (by simp) (z01 h2 (z00 (by simp) (by rw[e3]))))) (z05 (by simp) ?_);have hloop:=z6i (f:=fun l2=>
       if (decide ((gd l2 1).i<(j.diffs.length:Int)))then
        if (inb (gd l2 1).i j.diffs.length)then
        ((z1J.F [(gd (j.diffs.map Dif.d) (gd l2 1).i.toNat)]).bind fun r4=>
          if (!r4.b)then
           ou 0 [(.bool true)]
          else
           if (((gd (j.diffs.map Dif.d) (gd l2 1).i.toNat).fld 0).i != (gd l2 0).i)then
            ou 0 [(.bool true)]
           else
            ou 0 [(.bool (decide (((gd (j.diffs.map Dif.d) (gd l2 1).i.toNat).fld 1).i<=(gd l2 0).i)))]).bind fun o4=>
        sel2 o4.1 (if (gd o4.2 0).b then
         ou 1 [(.bool false)]
         else
          ou 0 [((gd (j.diffs.map Dif.d) (gd l2 1).i.toNat).fld 1),(.int (IntKind.wrap .i64 ((gd l2 1).i+1)))]) fun _=>none
        else none
       else
        ou 2 []) (l:=[.int j.first,.int 0]) (fun i (s:Int)=>[.int s,.int i]) j.diffs jG (fun _ _=>True) j.first 1 (fun _=>[]) rfl trivial (by
       intro i s hi _;have e0:(gd [D.int s,D.int (i:Int)] 1).i.toNat=i:=by simp
       have e1:(gd [D.int s,D.int (i:Int)] 1).i=i:=rfl;have e2:(gd [D.int s,D.int (i:Int)] 0).i=s:=rfl;have g0:(j.diffs[i].d.fld 0).i=j.diffs[i].fr:=rfl;have g1:j.diffs[i].d.fld 1=.int j.diffs[i].to':=rfl;have hd:=zCf (hj.all _ (List.getElem_mem hi));unfold jG;by_cases h:j.diffs[i].good=true/\j.diffs[i].fr=s/\s<j.diffs[i].to'
       ·rw[if_pos h];rw[h.1]at hd;refine⟨?_,trivial⟩;rw[e0,e1,e2,z2Q hi,g0,g1,z0B hi hsm];refine z03 (by simpa using hi) (z03 (by simpa using z0A hi) (z0m (r:=(0,[.bool false])) (z01 hd (z00 (by simp) (z00 (by simp[h.2.1]) ?_))) (sel0 (z00 (by simp) rfl))));have:decide ((D.int j.diffs[i].to').i<=s)=false:=decide_eq_false (by simp only[D.i_int]; omega);rw[this]
       ·rw[if_neg h];show _=some (1,_);rw[e0,e1,e2,z2Q hi,g0,g1];refine z03 (by simpa using hi) (z03 (by simpa using z0A hi) (z0m (r:=(0,[.bool true])) ?_ (sel0 (z03 rfl rfl))))
        cases hg:j.diffs[i].good with
        | false=>rw[hg]at hd; exact z01 hd (z03 rfl rfl)
        | true=>
          rw[hg]at hd;refine z01 hd (z00 (by simp) ?_);by_cases h2:j.diffs[i].fr=s
          ·refine z00 (by simp[h2]) ?_;have h3:¬s<j.diffs[i].to':=fun h3=>h ⟨hg,h2,h3⟩;have:decide ((D.int j.diffs[i].to').i<=s)=true:=decide_eq_true (by simp only[D.i_int]; omega);rw[this]
          ·exact z03 (by simpa using h2) rfl) (by
       intro s _;exact z00 (by simp) rfl)
      rcases zP1 j.diffs 0 j.first with ⟨t,hf,hc⟩ | ⟨hf,hc⟩
      ·rw[hf]at hloop; rw[hc]; exact z0E hloop rfl
      ·rw[hf]at hloop; rw[hc]; exact z0E hloop rfl
     ·have e3:decide ((j.diffs.length:Int) > 12)=true:=decide_eq_true (by omega);have e3':decide (j.diffs.length<=12)=false:=decide_eq_false k3;rw[e3'];exact z06 (l:=[.bool true]) (z01 h1 (z00 (by simp) (z01 h2 (z00 (by simp) (by rw[e3]))))) (z0F rfl rfl)
theorem z8F {j:Jrn} (hj:j.In lim):z1h.F [j.d]=some (.bool (z8h j.apex&&j.body)):=by
 have hsm:=Nat.le_trans hj.len z0R
 rw[zCP]
 have f0:j.d.fld 0=.str j.apex:=rfl
 have f1:j.d.fld 1=.int j.first:=rfl
 have f2:(j.d.fld 2).l=j.diffs.map Dif.d:=rfl
 rw[f0,f1]
 simp only[f2,List.length_map]
 have h1:=zPs hj.apex
 have h2:=zAX j.first
 unfold Jrn.body
 cases k1:z8h j.apex with
 | false=>rw[k1]at h1; exact z06 (l:=[.bool true]) (z01 h1 (z03 rfl rfl)) (z0F rfl rfl)
 | true=>
   rw[k1]at h1
   cases k2:cntB j.first with
   | false=>rw[k2]at h2; exact z06 (l:=[.bool true]) (z01 h1 (z00 (by simp) (z01 h2 (z03 rfl rfl)))) (z0F rfl rfl)
   | true=>
     rw[k2]at h2;by_cases k3:j.diffs.length<=12
     ·have e3:decide ((j.diffs.length:Int) > 12)=false:=decide_eq_false (by omega);have e3':decide (j.diffs.length<=12)=true:=decide_eq_true k3;rw[e3',Bool.true_and,Bool.true_and,Bool.true_and];refine z06 (l:=[.bool false]) (z01 h1 (z00 (by simp) (z01 h2 (z00 (by simp) (by rw[e3]))))) (z05 (by simp) ?_);have hloop:=z6i (f:=fun l2=>
       if (decide ((gd l2 1).i<(j.diffs.length:Int)))then
        if (inb (gd l2 1).i j.diffs.length)then
        ((z1W.F [(gd (j.diffs.map Dif.d) (gd l2 1).i.toNat)]).bind fun r4=>
          if (!r4.b)then
           ou 0 [(.bool true)]
          else
           if (((gd (j.diffs.map Dif.d) (gd l2 1).i.toNat).fld 0).i != (gd l2 0).i)then
            ou 0 [(.bool true)]
           else
            ou 0 [(.bool (decide (((gd (j.diffs.map Dif.d) (gd l2 1).i.toNat).fld 1).i<=((gd (j.diffs.map Dif.d) (gd l2 1).i.toNat).fld 0).i)))]).bind fun o4=>
        sel2 o4.1 (if (gd o4.2 0).b then
         ou 1 [(.bool false)]
         else
          ou 0 [((gd (j.diffs.map Dif.d) (gd l2 1).i.toNat).fld 1),(.int (IntKind.wrap .i64 ((gd l2 1).i+1)))]) fun _=>none
        else none
       else
        ou 2 []) (l:=[.int j.first,.int 0]) (fun i (s:Int)=>[.int s,.int i]) j.diffs jG (fun _ _=>True) j.first 1 (fun _=>[]) rfl trivial (by
       intro i s hi _;have e0:(gd [D.int s,D.int (i:Int)] 1).i.toNat=i:=by simp
       have e1:(gd [D.int s,D.int (i:Int)] 1).i=i:=rfl;have e2:(gd [D.int s,D.int (i:Int)] 0).i=s:=rfl;have g0:(j.diffs[i].d.fld 0).i=j.diffs[i].fr:=rfl;have g1:j.diffs[i].d.fld 1=.int j.diffs[i].to':=rfl;have hd:=z7z (hj.all _ (List.getElem_mem hi));unfold jG;by_cases h:j.diffs[i].good=true/\j.diffs[i].fr=s/\s<j.diffs[i].to'
       ·rw[if_pos h];rw[h.1]at hd;refine⟨?_,trivial⟩;rw[e0,e1,e2,z2Q hi,g0,g1,z0B hi hsm];refine z03 (by simpa using hi) (z03 (by simpa using z0A hi) (z0m (r:=(0,[.bool false])) (z01 hd (z00 (by simp) (z00 (by simp[h.2.1]) ?_))) (sel0 (z00 (by simp) rfl))));have:decide ((D.int j.diffs[i].to').i<=j.diffs[i].fr)=false:=decide_eq_false (by simp only[D.i_int]; omega);rw[this]
       ·rw[if_neg h];show _=some (1,_);rw[e0,e1,e2,z2Q hi,g0,g1];refine z03 (by simpa using hi) (z03 (by simpa using z0A hi) (z0m (r:=(0,[.bool true])) ?_ (sel0 (z03 rfl rfl))))
        cases hg:j.diffs[i].good with
        | false=>rw[hg]at hd; exact z01 hd (z03 rfl rfl)
        | true=>
          rw[hg]at hd;refine z01 hd (z00 (by simp) ?_);by_cases h2:j.diffs[i].fr=s
          ·refine z00 (by simp[h2]) ?_;have h3:¬s<j.diffs[i].to':=fun h3=>h ⟨hg,h2,h3⟩;have:decide ((D.int j.diffs[i].to').i<=j.diffs[i].fr)=true:=decide_eq_true (by simp only[D.i_int]; omega);rw[this]
          ·exact z03 (by simpa using h2) rfl) (by
       intro s _;exact z00 (by simp) rfl)
      rcases zP1 j.diffs 0 j.first with ⟨t,hf,hc⟩ | ⟨hf,hc⟩
      ·rw[hf]at hloop; rw[hc]; exact z0E hloop rfl
      ·rw[hf]at hloop; rw[hc]; exact z0E hloop rfl
     ·have e3:decide ((j.diffs.length:Int) > 12)=true:=decide_eq_true (by omega);have e3':decide (j.diffs.length<=12)=false:=decide_eq_false k3;rw[e3'];exact z06 (l:=[.bool true]) (z01 h1 (z00 (by simp) (z01 h2 (z00 (by simp) (by rw[e3]))))) (z0F rfl rfl)
def Jrn.last (j:Jrn):Int:=if j.diffs.length=0 then j.first else(j.diffs.getD (j.diffs.length-1) Dif.nul).to'
theorem zUU {j:Jrn} (hl:j.diffs.length<=lim):z3H.F [j.d]=some (.int j.last)/\z6N.F [j.d]=some (.int j.last):=by
 have hlim:lim=1048576:=rfl
 rw[zB5,zLs]
 have f1:j.d.fld 1=.int j.first:=rfl
 have f2:(j.d.fld 2).l=j.diffs.map Dif.d:=rfl
 rw[f1]
 simp only[f2,List.length_map]
 unfold Jrn.last
 by_cases h:j.diffs.length=0
 ·rw[if_pos h];exact⟨z0F (by simp[h]) rfl,z05 (fun h'=>by have h'':(j.diffs.length:Int) > 0:=of_decide_eq_true h'; omega) rfl⟩
 ·rw[if_neg h];have w:IntKind.wrap .i64 ((j.diffs.length:Int)-1)=((j.diffs.length-1:Nat):Int):=by rw[z0h] <;> omega
  have hlt:j.diffs.length-1<j.diffs.length:=by omega
  rw[w,Int.toNat_natCast,z2Q hlt,z0H hlt];exact⟨z05 (by rw[beq_iff_eq]; omega) (z0F (z0A hlt) rfl),z0F (decide_eq_true (by omega)) (z0F (z0A hlt) rfl)⟩
def exc:List UInt8:=[101,120,46,99,111,109]
noncomputable def verB (f:Flt) (z:Zn):Bool:=z.good&&(z.apex==exc&&decide (z.counter<=f.ctl.zone.counter))
theorem zAU {f:Flt} {z:Zn} (hz:z.In lim):z1s.F [f.d,z.d]=some (.bool (verB f z)):=by
 rw[zFG]
 have h1:=z8D hz
 have f0:(z.d.fld 0).s=z.apex:=rfl
 have f1:(z.d.fld 1).i=z.counter:=rfl
 have f2:(((f.d.fld 0).fld 0).fld 1).i=f.ctl.zone.counter:=rfl
 rw[f0,f1,f2]
 refine z06 (l:=[.bool (verB f z)]) ?_ rfl
 unfold verB
 cases k1:z.good with
 | false=>rw[k1]at h1; exact z01 h1 (z00 (by simp) rfl)
 | true=>
   rw[k1]at h1;refine z01 h1 (z03 rfl ?_)
   cases k2:z.apex==exc with
   | false=>exact z00 (by rw[show(z.apex==[101,120,46,99,111,109])=(z.apex==exc)from rfl,k2]; simp) rfl
   | true=>exact z03 k2 rfl
theorem zGE {f:Flt} {z:Zn} (hz:z.In lim):z3q.F [f.d,z.d]=some (.bool (verB f z)):=by
 rw[zJi]
 have h1:=z5n hz
 have f0:(z.d.fld 0).s=z.apex:=rfl
 have f1:(z.d.fld 1).i=z.counter:=rfl
 have f2:(((f.d.fld 0).fld 0).fld 1).i=f.ctl.zone.counter:=rfl
 rw[f0,f1,f2]
 refine z06 (l:=[.bool (verB f z)]) ?_ rfl
 unfold verB
 cases k1:z.good with
 | false=>rw[k1]at h1; exact z01 h1 (z00 (by simp) rfl)
 | true=>
   rw[k1]at h1;refine z01 h1 (z03 rfl ?_)
   cases k2:z.apex==exc with
   | false=>exact z00 (by rw[show(z.apex==[101,120,46,99,111,109])=(z.apex==exc)from rfl,k2]; simp) rfl
   | true=>exact z03 k2 rfl
noncomputable def edgB (f:Flt) (e:Edg):Bool:=verB f e.zone&&verB f e.saved
def zE5 (x:Dif):Bool:=decide (x.fr=0)&&(decide (x.to'=0)&&(decide (x.dels.length=0)&&decide (x.adds.length=0)))
def zBr (z:Zn):Bool:=decide (z.apex=[])&&(decide (z.counter=0)&&decide (z.recs.length=0))
noncomputable def prcB (f:Flt) (p:Prc):Bool:=inP p.to' 0 ((f.edges.length:Int)-1) &&
 (if p.whole=true then verB f p.zone&&zE5 p.diff else p.diff.good&&(decide (p.diff.fr<=p.diff.to')&&(decide (p.diff.to'<=f.ctl.zone.counter)&&zBr p.zone)))
theorem z8g (n:Nat):((n:Int)==0)=decide (n=0):=by rw[Bool.eq_iff_iff]; simp
theorem zQh {f:Flt} {p:Prc} (hp:p.In lim) (hl:f.edges.length<=lim):z5A.F [f.d,p.d]=some (.bool (prcB f p)):=by
 have hlim:lim=1048576:=rfl
 rw[zHr]
 have w:IntKind.wrap .i64 ((f.edges.length:Int)-1)=(f.edges.length:Int)-1:=by rw[z0h] <;> omega
 have f2:(f.d.fld 2).l.length=f.edges.length:=by show(f.edges.map Edg.d).length=_; simp
 have fc:(((f.d.fld 0).fld 0).fld 1).i=f.ctl.zone.counter:=rfl
 have g0:p.d.fld 0=.int p.to':=rfl
 have g1:(p.d.fld 1).b=p.whole:=rfl
 have g2:p.d.fld 2=p.zone.d:=rfl
 have g3:p.d.fld 3=p.diff.d:=rfl
 have d0:(p.diff.d.fld 0).i=p.diff.fr:=rfl
 have d1:(p.diff.d.fld 1).i=p.diff.to':=rfl
 have d2:(p.diff.d.fld 2).l.length=p.diff.dels.length:=by show(p.diff.dels.map Rec.d).length=_; simp
 have d3:(p.diff.d.fld 3).l.length=p.diff.adds.length:=by show(p.diff.adds.map Rec.d).length=_; simp
 have z0:(p.zone.d.fld 0).s=p.zone.apex:=rfl
 have z1:(p.zone.d.fld 1).i=p.zone.counter:=rfl
 have z2:(p.zone.d.fld 2).l.length=p.zone.recs.length:=by show(p.zone.recs.map Rec.d).length=_; simp
 rw[f2,w,fc,g0,g1,g2,g3,d0,d1,d2,d3,z0,z1,z2]
 have h1:=z6Q p.to' 0 ((f.edges.length:Int)-1)
 unfold prcB
 cases k1:inP p.to' 0 ((f.edges.length:Int)-1)with
 | false=>rw[k1]at h1; exact z04 h1 (z0F rfl rfl)
 | true=>
   rw[k1]at h1;refine z04 h1 (z05 (by simp) ?_);rw[Bool.true_and]
   cases hw:p.whole with
   | true=>
     refine z0F rfl ?_;rw[if_pos rfl];have h2:=zAU (f:=f) hp.zone;refine z06 (l:=[.bool (verB f p.zone&&zE5 p.diff)]) ?_ rfl;unfold zE5
     cases k2:verB f p.zone with
     | false=>rw[k2]at h2; exact z01 h2 (z00 (by simp) rfl)
     | true=>
       rw[k2]at h2;refine z01 h2 (z03 rfl ?_);by_cases k3:p.diff.fr=0
       ·refine z03 (by simpa using k3) ?_;by_cases k4:p.diff.to'=0
        ·refine z03 (by simpa using k4) ?_;by_cases k5:p.diff.dels.length=0
         ·exact z03 (by rw[z8g]; exact decide_eq_true k5) (by simp[k3,k4,k5,z8g])
         ·exact z00 (by rw[z8g]; simpa using k5) (by simp[k5])
        ·exact z00 (by simpa using k4) (by simp[k4])
       ·exact z00 (by simpa using k3) (by simp[k3])
   | false=>
     refine z05 (by simp) ?_;simp only[Bool.false_eq_true,if_false];have h2:=zCf hp.diff;refine z06 (l:=[.bool (p.diff.good&&(decide (p.diff.fr<=p.diff.to')&&(decide (p.diff.to'<=f.ctl.zone.counter)&&zBr p.zone)))]) ?_ rfl;unfold zBr
     cases k2:p.diff.good with
     | false=>rw[k2]at h2; exact z01 h2 (z00 (by simp) rfl)
     | true=>
       rw[k2]at h2;refine z01 h2 (z03 rfl ?_);by_cases k3:p.diff.fr<=p.diff.to'
       ·refine z03 (decide_eq_true k3) ?_;by_cases k4:p.diff.to'<=f.ctl.zone.counter
        ·refine z03 (decide_eq_true k4) ?_;by_cases k5:p.zone.apex=[]
         ·refine z03 (by simpa using k5) ?_;by_cases k6:p.zone.counter=0
          ·exact z03 (by simpa using k6) (by simp[k3,k4,k5,k6,z8g])
          ·exact z00 (by simpa using k6) (by simp[k6])
         ·exact z00 (by simpa using k5) (by simp[k5])
        ·exact z00 (fun h=>k4 (of_decide_eq_true h)) (by simp[k4])
       ·exact z00 (fun h=>k3 (of_decide_eq_true h)) (by simp[k3])
noncomputable def Flt.good (f:Flt):Bool:=f.ctl.good&&(f.ctl.zone.apex==exc&&(f.jrn.body&&(f.jrn.apex==exc&&(decide (f.jrn.last=f.ctl.zone.counter)&&(inP f.edges.length 1 3&&(decide (f.parcels.length<=12)&&(f.edges.all (edgB f)&&f.parcels.all (prcB f))))))))
theorem zOZ {f:Flt} (hl:f.edges.length<=lim) (hx:∀x∈f.edges,x.In lim):z0P.F [.lst (f.edges.map Edg.d),.pair f.d .unit]=some (.bool !(f.edges.all (edgB f))):=by
 obtain⟨n,i1,i2⟩:=zCw (f:=Edg.d) (c:=fun d=>z2s.F [d,f.d]) (xs:=f.edges) (p:=fun e=>!(edgB f e)) (Nat.le_trans hl z0R) (fun e he=>by
  show z2s.F [e.d,f.d]=_;rw[zCB];have f0:e.d.fld 0=e.zone.d:=rfl;have f1:e.d.fld 1=e.saved.d:=rfl;rw[f0,f1];have h1:=zAU (f:=f) (hx e he).zone;have h2:=zAU (f:=f) (hx e he).saved;refine z06 (l:=[.bool !(edgB f e)]) ?_ rfl;unfold edgB
  cases k:verB f e.zone with
  | false=>rw[k]at h1; exact z01 h1 (z03 rfl rfl)
  | true=>rw[k]at h1; exact z01 h1 (z00 (by simp) (z01 h2 rfl)))
 have h3:z0W.F [.lst (f.edges.map Edg.d),.pair f.d .unit]=some (.int n):=by
  rw[z2p]; exact i1
 rw[z2O]
 refine z04 h3 ?_
 rw[List.not_all_eq_any_not,<- i2]; rfl
theorem zOa {f:Flt} (he:f.edges.length<=lim) (hl:f.parcels.length<=lim) (hx:∀x∈f.parcels,x.In lim):z0I.F [.lst (f.parcels.map Prc.d),.pair f.d .unit]=some (.bool !(f.parcels.all (prcB f))):=by
 obtain⟨n,i1,i2⟩:=zCw (f:=Prc.d) (c:=fun d=>z2t.F [d,f.d]) (xs:=f.parcels) (p:=fun e=>!(prcB f e)) (Nat.le_trans hl z0R) (fun p hp=>by
  show z2t.F [p.d,f.d]=_;rw[zCC];exact z04 (zQh (hx p hp) he) rfl)
 have h3:z0O.F [.lst (f.parcels.map Prc.d),.pair f.d .unit]=some (.int n):=by
  rw[z2F]; exact i1
 rw[z1n]
 refine z04 h3 ?_
 rw[List.not_all_eq_any_not,<- i2]; rfl
theorem zOT {f:Flt} (hf:f.In lim):z4V.F [f.d]=some (.bool f.good):=by
 rw[zFB]
 have f0:f.d.fld 0=f.ctl.d:=rfl
 have f00:((f.ctl.d.fld 0).fld 0).s=f.ctl.zone.apex:=rfl
 have f01:((f.ctl.d.fld 0).fld 1).i=f.ctl.zone.counter:=rfl
 have f1:f.d.fld 1=f.jrn.d:=rfl
 have f10:(f.jrn.d.fld 0).s=f.jrn.apex:=rfl
 have f2:f.d.fld 2=.lst (f.edges.map Edg.d):=rfl
 have f3:f.d.fld 3=.lst (f.parcels.map Prc.d):=rfl
 have l2:(D.lst (f.edges.map Edg.d)).l.length=f.edges.length:=by simp
 have l3:(D.lst (f.parcels.map Prc.d)).l.length=f.parcels.length:=by simp
 rw[f0,f00,f01,f1,f10,f2,f3,l2,l3]
 have h1:=zKU hf.ctl
 have h2:=zBO hf.jrn
 have h3:=(zUU hf.jrn.len).1
 have h4:=z6Q f.edges.length 1 3
 have h5:=zOZ hf.elen hf.eall
 have h6:=zOa hf.elen hf.plen hf.pall
 have eexc:∀s:List UInt8,(s==[101,120,46,99,111,109])=(s==exc):=fun _=>rfl
 unfold Flt.good
 cases k1:f.ctl.good with
 | false=>rw[k1]at h1; exact z06 (l:=[.bool true]) (z01 h1 (z03 rfl rfl)) (z0F rfl rfl)
 | true=>
 rw[k1]at h1
 cases k2:f.ctl.zone.apex==exc with
 | false=>exact z06 (l:=[.bool true]) (z01 h1 (z00 (by simp) (z03 (by rw[eexc,k2]; rfl) rfl))) (z0F rfl rfl)
 | true=>
 have c2:¬(!(f.ctl.zone.apex==[101,120,46,99,111,109]))=true:=by rw[eexc,k2]; simp
 cases k4:f.jrn.apex==exc with
 | false=>
   have c4:(!(f.jrn.apex==[101,120,46,99,111,109]))=true:=by rw[eexc,k4]; rfl
   have hfin:rn (ou 0 [.bool false])=some (.bool (true&&(true&&(f.jrn.body&&(false&&(decide (f.jrn.last=f.ctl.zone.counter)&&(inP f.edges.length 1 3&&(decide (f.parcels.length<=12)&&(f.edges.all (edgB f)&&f.parcels.all (prcB f)))))))))):=by
    simp
   cases k3:(z15 f.jrn.apex&&f.jrn.body)with
   | false=>rw[k3]at h2; exact z06 (l:=[.bool true]) (z01 h1 (z00 (by simp) (z00 c2 (z01 h2 (z03 rfl rfl))))) (z0F rfl hfin)
   | true=>rw[k3]at h2; exact z06 (l:=[.bool true]) (z01 h1 (z00 (by simp) (z00 c2 (z01 h2 (z00 (by simp) (z03 c4 rfl)))))) (z0F rfl hfin)
 | true=>
 have c4:¬(!(f.jrn.apex==[101,120,46,99,111,109]))=true:=by rw[eexc,k4]; simp
 have hnm:z15 f.jrn.apex=true:=by
  have:f.jrn.apex=exc:=by simpa using k4
  rw[this]; decide
 rw[hnm,Bool.true_and]at h2
 cases k3:f.jrn.body with
 | false=>rw[k3]at h2; exact z06 (l:=[.bool true]) (z01 h1 (z00 (by simp) (z00 c2 (z01 h2 (z03 rfl rfl))))) (z0F rfl rfl)
 | true=>
 rw[k3]at h2
 by_cases k5:f.jrn.last=f.ctl.zone.counter
 case neg=>
  have e5:decide (f.jrn.last=f.ctl.zone.counter)=false:=decide_eq_false k5;rw[e5];exact z06 (l:=[.bool true]) (z01 h1 (z00 (by simp) (z00 c2 (z01 h2 (z00 (by simp) (z00 c4 (z01 h3 (by simp[k5])))))))) (z0F rfl rfl)
 have e5:decide (f.jrn.last=f.ctl.zone.counter)=true:=decide_eq_true k5
 rw[e5]
 refine z06 (l:=[.bool false]) (z01 h1 (z00 (by simp) (z00 c2 (z01 h2 (z00 (by simp) (z00 c4 (z01 h3 (by simp[k5])))))))) (z05 (by simp) ?_)
 cases k6:inP f.edges.length 1 3 with
 | false=>rw[k6]at h4; exact z06 (l:=[.bool true]) (z01 h4 (z03 rfl rfl)) (z0F rfl rfl)
 | true=>
 rw[k6]at h4
 by_cases k7:f.parcels.length<=12
 case neg=>
  have e7:decide (f.parcels.length<=12)=false:=decide_eq_false k7;have e7':decide ((f.parcels.length:Int) > 12)=true:=decide_eq_true (by omega);rw[e7];exact z06 (l:=[.bool true]) (z01 h4 (z00 (by simp) (by rw[e7']))) (z0F rfl rfl)
 have e7:decide (f.parcels.length<=12)=true:=decide_eq_true k7
 have e7':decide ((f.parcels.length:Int) > 12)=false:=decide_eq_false (by omega)
 rw[e7]
 refine z06 (l:=[.bool false]) (z01 h4 (z00 (by simp) (by rw[e7']))) (z05 (by simp) (z06 (l:=[.bool (f.edges.all (edgB f)&&f.parcels.all (prcB f))]) ?_ rfl))
 cases k8:f.edges.all (edgB f)with
 | false=>rw[k8]at h5; exact z01 h5 (z00 (by simp) rfl)
 | true=>rw[k8]at h5; exact z01 h5 (z03 rfl (z01 h6 (by simp)))
end Go.Proofs.YtcnjllnhfoiojaaGreatDoor
