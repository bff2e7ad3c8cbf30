/- What the functions compute, in plain words. -/
import Derived.Test.YtilejnnnkfjmmaaGreatDoorP7
set_option linter.unusedSectionVars false
set_option linter.unusedVariables false
set_option linter.unusedSimpArgs false
namespace Go.Proofs.YtilejnnnkfjmmaaGreatDoor
open Go Go.Own
theorem app1 {α:Type} {eb:Nat} {g:α->D} {xs:List α} {y:D} (h:xs.length<=1000000) (he:eb<=1000000):appOk eb (xs.map g) [y]=true:=by
 have hsm:=z0c
 have:(xs.length+1)*eb<=1000001*1000000:=Nat.mul_le_mul (by omega) he
 simp only[appOk,List.length_map,List.length_singleton,Bool.and_eq_true,decide_eq_true_eq]
 omega
def AskI (a:Ask):Prop:=a.ch.length<=13/\∀p∈a.ch,p.2.In 150
def AskB (d:D):Prop:=∃a:Ask,d=a.d/\AskI a
def AskL (n:Nat) (d:D):Prop:=∃l:List Ask,d=.lst (l.map Ask.d)/\l.length<=n/\∀a∈l,AskI a
theorem AskI.in {a:Ask} (h:AskI a):a.In lim:=⟨Nat.le_trans h.1 (by decide),fun p hp=>(h.2 p hp).mono (by decide)⟩
variable {bs : List D} {k : Nat} {c : D}
theorem z8X (hb:z7v bs) (hc:Cu bs k c) (hk:k<=400000):Tot (z0o.F [c]) (Dr bs (k+2100) AskB):=by
 rw[z8R]
 refine z9n (z1C (z6b hb hc (by omega) 3) ?_)
 rintro _ ⟨_,c1,rfl,⟨v,rfl,hv⟩,hc1⟩
 refine z1C (z6b hb hc1 (by omega) 6) ?_
 rintro _ ⟨_,c2,rfl,⟨u,rfl,hu⟩,hc2⟩
 refine z1C (zSM hb hc2 (by omega)) ?_
 rintro _ ⟨_,c3,rfl,⟨l,rfl,hl,hx⟩,hc3⟩
 refine z4C (P:=fun r=>∃c' x,r=(0,[c',x])/\Cu bs (k+2100) c'/\AskB x) ?_ ?_
 ·refine z1C (z6b hb hc3 (by omega) 60) ?_;rintro _ ⟨_,c4,rfl,⟨w,rfl,hw⟩,hc4⟩;refine z5a (fun _=>z1C (zAj hb hc4 (by omega) rfl (by simp)) ?_) (fun _=>z5a (fun _=>z1C (zAj hb hc4 (by omega) rfl (by simp)) ?_) (fun _=>z1x ⟨_,_,rfl,hc4.mono (by omega),⟨v,_,l⟩,rfl,hl,hx⟩))
  ·rintro _ ⟨_,c5,rfl,⟨s,rfl⟩,hc5⟩;exact z1x ⟨_,_,rfl,hc5.mono (by omega),⟨v,s,l⟩,rfl,hl,hx⟩
  ·rintro _ ⟨_,c5,rfl,⟨s,rfl⟩,hc5⟩;exact z1x ⟨_,_,rfl,hc5.mono (by omega),⟨s,_,l⟩,rfl,hl,hx⟩
 ·rintro _ ⟨c4,_,rfl,hc4,hx⟩;exact z4D (z1x ⟨_,rfl,_,_,rfl,hx,hc4⟩)
theorem zMA {l:List Ask} {a:Ask} (h:l.length<=1000000):appOk 40 (l.map Ask.d) [a.d]=true:=app1 (xs:=l) (g:=Ask.d) h (by decide)
theorem zBq {l:List Ask} {a:Ask}:l.map Ask.d++[a.d]=(l++[a]).map Ask.d:=by simp
theorem zJT {l:List Ask} {a:Ask} {P:Ask->Prop} (h:∀x∈l,P x) (ha:P a):∀x∈l++[a],P x:=by
 intro x hx
 rcases List.mem_append.1 hx with hx | hx
 ·exact h x hx
 ·rw[List.mem_singleton.1 hx]; exact ha
def CL (bs:List D) (m n:Nat) (r:Nat×List D):Prop:=∃(c':D) (l:List Ask),r=(0,[c',.lst (l.map Ask.d)])/\l.length<=n/\(∀a∈l,AskI a)/\Cu bs m c'
theorem zFQ (hb:z7v bs) (hc:Cu bs k c) (hk:k<=300000):Tot (z1R.F [c]) (Dr bs (k+30000) (AskL 45)):=by
 rw[z93]
 refine z9n (z1C (z6b hb hc (by omega) 9) ?_)
 rintro _ ⟨_,c1,rfl,⟨v,rfl,hv⟩,hc1⟩
 have hv8:v<=8:=by omega
 refine z4C (P:=CL bs (k+20000) 16) (zJX (fun m l=>∃(c':D) (xs:List Ask),l=[c',.lst (xs.map Ask.d),.int (m:Int)]/\m<=8/\xs.length+2*m<=16/\(∀a∈xs,AskI a)/\Cu bs (k+2+2200*(8-m)) c') ?_ v ⟨c1,[],rfl,hv8,by simp; omega,by simp,hc1.mono (by omega)⟩) ?_
 ·rintro m _ ⟨c',xs,rfl,hm,hl,hx,hc'⟩;refine z5a (fun h=>?_) (fun h=>z1x (.inr ⟨0,rfl,c',xs,rfl,by omega,hx,hc'.mono (by omega)⟩));have h0:(0:Int)<m:=of_decide_eq_true h;refine z4C (P:=fun r=>∃(c2:D) (ys:List Ask),r=(0,[c2,.lst (ys.map Ask.d)])/\ys.length<=xs.length+2/\(∀a∈ys,AskI a)/\Cu bs (k+2+2200*(8-(m-1))) c2) (z1C (z8X hb hc' (by omega)) ?_) ?_
  ·rintro _ ⟨_,c2,rfl,⟨a,rfl,ha⟩,hc2⟩;refine z4C (P:=fun r=>∃(c3:D) (a:Ask),r=(0,[c3,a.d])/\AskI a/\Cu bs (k+2+2200*(8-m)+2102) c3) (z1C (zIn hb hc2 (by omega) 2) ?_) ?_
   ·rintro _ ⟨_,c3,rfl,⟨b,rfl⟩,hc3⟩;exact z5a (fun _=>z1x ⟨c3,⟨a.client,IntKind.wrap .i64 (((xs.map Ask.d).length:Int)+1),a.ch⟩,rfl,ha,hc3.mono (by omega)⟩) (fun _=>z1x ⟨c3,a,rfl,ha,hc3.mono (by omega)⟩)
   ·rintro _ ⟨c3,a,rfl,ha,hc3⟩;refine z4D (z8G (zMA (l:=xs) (a:=a) (by omega)) (z1C (zIn hb hc3 (by omega) 5) ?_));rintro _ ⟨_,c4,rfl,⟨b,rfl⟩,hc4⟩;have h1:=zJT hx ha;refine z5a (fun _=>z8G ?_ (z1x ⟨c4,(xs++[a])++[a],?_,by simp,zJT h1 ha,hc4.mono (by omega)⟩)) (fun _=>z1x ⟨c4,xs++[a],?_,by simp,h1,hc4.mono (by omega)⟩)
    ·show appOk 40 (xs.map Ask.d++[a.d]) [a.d]=true;rw[zBq]; exact zMA (by simp; omega)
    ·show(0,[c4,D.lst (xs.map Ask.d++[a.d]++[a.d])])=_;rw[zBq,zBq]
    ·show(0,[c4,D.lst (xs.map Ask.d++[a.d])])=_;rw[zBq]
  ·rintro _ ⟨c2,ys,rfl,hy,hyx,hc2⟩;have hw:IntKind.wrap .i64 ((m:Int)-1)=((m-1:Nat):Int):=by rw[z0f] <;> omega
   refine z4D (z1x (.inl ⟨m-1,by omega,rfl,c2,ys,?_,by omega,by omega,hyx,hc2⟩));show [c2,D.lst (ys.map Ask.d),D.int (IntKind.wrap .i64 ((m:Int)-1))]=_;rw[hw]
 ·rintro _ ⟨c2,l,rfl,hl,hx,hc2⟩;refine z4D (z4C (P:=CL bs (k+30000) 45) (z1C (zIn hb hc2 (by omega) 30) ?_) ?_)
  ·rintro _ ⟨_,c3,rfl,⟨b,rfl⟩,hc3⟩;refine z5a (fun _=>z4C (P:=CL bs (k+30000) 45) (zJX (fun m l=>∃(c':D) (xs:List Ask),l=[c',.lst (xs.map Ask.d)]/\xs.length+m=45/\(∀a∈xs,AskI a)/\Cu bs (k+20010+2*xs.length) c') ?_ (45-l.length) ⟨c3,l,rfl,by omega,hx,hc3.mono (by omega)⟩) ?_) (fun _=>z1x ⟨c3,l,rfl,by omega,hx,hc3.mono (by omega)⟩)
   ·rintro m _ ⟨c',xs,rfl,hm,hx,hc'⟩;refine z1C (z6b hb hc' (by omega) 2) ?_;rintro _ ⟨_,c4,rfl,⟨w,rfl,hw⟩,hc4⟩;have hww:IntKind.wrap .i64 (40+(w:Int))=((40+w:Nat):Int):=by rw[z0f] <;> omega
    refine z5a (fun h=>?_) (fun h=>z1x (.inr ⟨0,rfl,c4,xs,rfl,by omega,hx,hc4.mono (by omega)⟩));have h':(((xs.map Ask.d).length:Nat):Int)<IntKind.wrap .i64 (40+(w:Int)):=of_decide_eq_true h;rw[hww,List.length_map]at h';refine z8G (by decide) (z8G ?_ (z1x (.inl ⟨m-1,by omega,rfl,c4,xs++[⟨((xs.map Ask.d).length:Int).tmod 11,IntKind.wrap .i64 (1+((xs.map Ask.d).length:Int)),[]⟩],?_,by simp; omega,zJT hx ⟨by simp,by simp⟩,hc4.mono (by simp; omega)⟩)))
    ·exact zMA (l:=xs) (a:=⟨((xs.map Ask.d).length:Int).tmod 11,IntKind.wrap .i64 (1+((xs.map Ask.d).length:Int)),[]⟩) (by omega)
    ·rw[<- zBq]; rfl
   ·rintro _ ⟨c4,l,rfl,hl,hx,hc4⟩;exact z4D (z1x ⟨c4,l,rfl,hl,hx,hc4⟩)
  ·rintro _ ⟨c4,l,rfl,hl,hx,hc4⟩;exact z4D (z1x ⟨_,rfl,_,_,rfl,⟨l,rfl,hl,hx⟩,hc4⟩)
def CtlB (d:D):Prop:=∃x:Ctl,d=x.d/\x.In lim
theorem zPJ (hb:z7v bs) (hc:Cu bs k c) (hk:k<=200000):Tot (z36.F [c]) (Dr bs (k+30100) CtlB):=by
 rw[zAO]
 have hlim:lim=1048576:=rfl
 refine z9n (z1C (zFQ hb hc (by omega)) ?_)
 rintro _ ⟨_,c1,rfl,⟨l,rfl,hl,hx⟩,hc1⟩
 refine z4C (P:=fun r=>∃l':List Ask,r=(0,[.lst (l'.map Ask.d)])/\l'.length<=45/\∀a∈l',AskI a) (z5a (fun h=>?_) (fun _=>z1x ⟨l,rfl,hl,hx⟩)) ?_
 ·have h':(((l.map Ask.d).length:Nat):Int) > 12:=of_decide_eq_true h;rw[List.length_map]at h';refine z8G ?_ (z8G ?_ (z1x ⟨l.take 12,?_,by simp; omega,fun a ha=>hx a (List.mem_of_mem_take ha)⟩))
  ·simp[slOk,D.fld]; omega
  ·simp[winOk,D.fld]; omega
  ·show(0,[D.lst (((l.map Ask.d).drop 0).take 12)])=_;rw[List.drop_zero,List.map_take]
 ·rintro _ ⟨l',rfl,hl',hx'⟩;obtain⟨x,ds,b,h1,h2,_,_,h3⟩:=zFR (apex:=[101,120,46,99,111,109]) (l:=l') (by decide) (by omega) (fun a ha=>(hx' a ha).in);refine z4D (zMp h3 (z4C (P:=fun r=>∃(c':D) (y:D),r=(0,[c',y])/\CtlB y/\Cu bs (k+30100) c') (z1C (z6b hb hc1 (by omega) 40) ?_) ?_))
  ·rintro _ ⟨_,c2,rfl,⟨v,rfl,_⟩,hc2⟩;refine z5a (fun _=>z1C (zAj hb hc2 (by omega) rfl (by simp)) ?_) (fun _=>z5a (fun _=>z1C (z6b hb hc2 (by omega) 5) ?_) (fun _=>z1x ⟨c2,_,rfl,⟨x,rfl,h1⟩,hc2.mono (by omega)⟩))
   ·rintro _ ⟨_,c3,rfl,⟨s,rfl⟩,hc3⟩;exact z1x ⟨c3,_,rfl,⟨⟨x.zone,x.last,s⟩,rfl,h1.zone,h1.len⟩,hc3.mono (by omega)⟩
   ·rintro _ ⟨_,c3,rfl,⟨s,rfl,_⟩,hc3⟩;refine z1C (z6b hb hc3 (by omega) 3) ?_;rintro _ ⟨_,c4,rfl,⟨u,rfl,_⟩,hc4⟩;refine z8G (app1 (xs:=x.last) (g:=Dn.d) (by omega) (by decide)) (z1x ⟨c4,_,rfl,⟨⟨x.zone,x.last++[⟨s,u,0,0⟩],x.many⟩,?_,h1.zone,by simp; omega⟩,hc4.mono (by omega)⟩);show D.pair x.zone.d (.pair (.lst (x.last.map Dn.d++[.pair (.int s) (.pair (.int u) (.pair (.int 0) (.pair (.int 0) .unit)))])) (.pair (.int x.many) .unit))=_;simp[Ctl.d,Dn.d]
  ·rintro _ ⟨c2,_,rfl,hy,hc2⟩;exact z4D (z1x ⟨_,rfl,_,_,rfl,hy,hc2⟩)
theorem zMK (bs:List D):Cu bs 0 (.pair (.lst bs) (.pair (.int 0) (.pair (.int 0) .unit))):=⟨0,0,rfl,Nat.le_refl _⟩
theorem zOF (hb:z7v bs):∃(x:Ctl) (a:Ask),z2D.F [.lst bs]=some (.pair x.d (.pair a.d .unit))/\x.In lim/\AskI a:=by
 have h:Tot (z2D.F [.lst bs]) (fun d=>∃(x:Ctl) (a:Ask),d=.pair x.d (.pair a.d .unit)/\x.In lim/\AskI a):=by
  rw[zAN];refine z9n (z1C (zPJ hb (zMK bs) (by omega)) ?_);rintro _ ⟨_,c1,rfl,⟨x,rfl,hx⟩,hc1⟩;refine z1C (z8X hb hc1 (by omega)) ?_;rintro _ ⟨_,c2,rfl,⟨a,rfl,ha⟩,hc2⟩;exact z1x ⟨_,rfl,x,a,rfl,hx,ha⟩
 obtain⟨_,h,x,a,rfl,hx,ha⟩:=h
 exact⟨x,a,h,hx,ha⟩
theorem zOE (hb:z7v bs):∃(s:List UInt8) (l:List Ask),z2C.F [.lst bs]=some (.pair (.str s) (.pair (.lst (l.map Ask.d)) .unit))/\s.length<=100/\l.length<=45/\∀a∈l,AskI a:=by
 have h:Tot (z2C.F [.lst bs]) (fun d=>∃(s:List UInt8) (l:List Ask),d=.pair (.str s) (.pair (.lst (l.map Ask.d)) .unit)/\s.length<=100/\l.length<=45/\∀a∈l,AskI a):=by
  rw[zAM];refine z9n (z4C (P:=fun r=>∃(s:List UInt8) (c':D),r=(0,[.str s,c'])/\s.length<=100/\Cu bs 100 c') (z1C (zIn hb (zMK bs) (by omega) 12) ?_) ?_)
  ·rintro _ ⟨_,c1,rfl,⟨b,rfl⟩,hc1⟩;refine z5a (fun _=>z1C (zRx hb hc1 (by omega)) ?_) (fun _=>z1x ⟨_,c1,rfl,by decide,hc1.mono (by omega)⟩);rintro _ ⟨_,c2,rfl,⟨s,rfl,hs⟩,hc2⟩;exact z1x ⟨s,c2,rfl,hs,hc2.mono (by omega)⟩
  ·rintro _ ⟨s,c1,rfl,hs,hc1⟩;refine z4D (z1C (zFQ hb hc1 (by omega)) ?_);rintro _ ⟨_,c2,rfl,⟨l,rfl,hl,hx⟩,_⟩;exact z1x ⟨_,rfl,s,l,rfl,hs,hl,hx⟩
 obtain⟨_,h,s,l,rfl,hs,hl,hx⟩:=h
 exact⟨s,l,h,hs,hl,hx⟩
theorem zOG (hb:z7v bs):∃a:Ask,z2B.F [.lst bs]=some a.d/\AskI a:=by
 have h:Tot (z2B.F [.lst bs]) (fun d=>∃a:Ask,d=a.d/\AskI a):=by
  rw[zAL];refine z9n (z1C (z8X hb (zMK bs) (by omega)) ?_);rintro _ ⟨_,c2,rfl,⟨a,rfl,ha⟩,hc2⟩;exact z1x ⟨_,rfl,a,rfl,ha⟩
 obtain⟨_,h,a,rfl,ha⟩:=h
 exact⟨a,h,ha⟩
end Go.Proofs.YtilejnnnkfjmmaaGreatDoor
namespace Go.Proofs.YtilejnnnkfjmmaaGreatDoor
open Go Go.Own
theorem zKt {c:Ctl} (h:c.good=true):∀x∈c.last,who x.client x.no=true/\inP x.code 0 4=true/\inP x.serial 0 4294967295=true:=by
 intro x hx
 obtain⟨i,hi,rfl⟩:=List.getElem_of_mem hx
 unfold Ctl.good at h
 simp only[Bool.and_eq_true,z1S]at h
 have:=h.2.2.2 i hi
 unfold dnOk at this
 simp only[Bool.and_eq_true,z0E hi]at this
 exact⟨this.1,this.2.1,this.2.2.1⟩
theorem zSb {c:Ctl} (h:CGood c) (hx:∀x∈c.last,who x.client x.no=true/\inP x.code 0 4=true/\inP x.serial 0 4294967295=true):c.good=true:=by
 unfold Ctl.good
 simp only[Bool.and_eq_true,z1S,decide_eq_true_eq]
 refine⟨Zn.good_iff.2 h.zone,by unfold inP; simp only[Bool.and_eq_true,decide_eq_true_eq]; exact h.many,h.len,fun i hi=>?_⟩
 obtain⟨h1,h2,h3⟩:=hx _ (List.getElem_mem hi)
 unfold dnOk
 simp only[Bool.and_eq_true,z0E hi,h1,h2,h3,true_and,Bool.or_eq_true,beq_iff_eq,decide_eq_true_eq]
 by_cases h0:i=0
 ·exact .inl h0
 ·refine .inr ?_;rw[z0E (show i-1<c.last.length by omega)];exact h.up (i-1) i (by omega) hi (by omega)
theorem zDi {c:Ctl} {a:Ask} (hc:c.In lim) (ha:a.In lim):∃(c':Ctl) (d:Dn) (b:Bool),c'.In lim/\(b=true->c.good=true/\c'.good=true)/\(c.good=true->TkS c a c' d b)/\z32.F [c.d,a.d]=some (takD c' d b)/\z4b.F [c.d,a.d]=some (takD c' d b):=by
 have hI:=z73 hc
 have hS:=z8A hc
 rw[zEi,zEs]
 cases hg:c.good with
 | false=>
   rw[hg]at hI hS;exact⟨nulC,Dn.nul,false,⟨⟨by simp[nulC],by simp[nulC],by simp[nulC]⟩,by simp[nulC]⟩,fun h=>by simp at h,fun h=>by simp at h,z03 hI (z0G rfl rfl),z03 hS (z0G rfl rfl)⟩
 | true=>
   rw[hg]at hI hS;obtain⟨c',d,b,hc',hb,hs,h1,h2⟩:=zPf hc (z9p hg) ha;refine⟨c',d,b,hc',fun h=>⟨rfl,zSb (hb h) ?_⟩,fun _=>hs,z03 hI (z05 (by simp) (z03 h1 rfl)),z03 hS (z05 (by simp) (z03 (zIv hc) (z03 h2 rfl)))⟩;obtain⟨hw,⟨k,hk,_,_,rfl,_⟩ | ⟨_,_,e1,e2,e3,e4,_,e5⟩⟩:=hs.res h
   ·exact zKt hg
   ·intro x hx;rcases e5 x hx with rfl | hx
    ·rw[e1,e2]; exact⟨hw,e3,e4⟩
    ·exact zKt hg x hx
theorem zDC {c:Ctl} (h:CGood c) {i j:Nat} (hi:i<c.last.length) (hj:j<c.last.length) (he:c.last[i].client=c.last[j].client):i=j:=by
 rcases Nat.lt_trichotomy i j with h1 | h1 | h1
 ·have:=h.up i j hi hj h1; omega
 ·exact h1
 ·have:=h.up j i hj hi h1; omega
theorem zSF {c:Ctl} {a:Ask} {d:Dn} (hd:d∈c.last) (e1:d.client=a.client) (e2:d.no=a.no):Was c a.client a.no:=by
 obtain⟨i,hi,rfl⟩:=List.getElem_of_mem hd
 exact⟨i,hi,e1,e2⟩
theorem zSR {c:Ctl} {a:Ask} {d:Dn} (hc:c.In lim) (ha:a.In lim) (hg:c.good=true) (hw:who a.client a.no=true) (hd:d∈c.last) (e1:d.client=a.client) (e2:d.no=a.no) :
 z32.F [c.d,a.d]=some (takD c d true):=by
 obtain⟨c',d',b,_,_,hs,h1,_⟩:=zDi hc ha
 have hs:=hs hg
 have hwas:=zSF hd e1 e2
 have hb:=hs.again hw hwas
 subst hb
 obtain⟨_,⟨k,hk,k1,k2,rfl,rfl⟩ | ⟨hn,_⟩⟩:=hs.res rfl
 ·obtain⟨i,hi,rfl⟩:=List.getElem_of_mem hd;have:=zDC (z9p hg) hi hk (by rw[e1,k1]);subst this;exact h1
 ·exact absurd hwas hn
theorem zNY {c:Ctl} (hc:c.In lim) (n m:Int):∃(d:Dn) (b:Bool),z3y.F [c.d,.int n,.int m]=some (.pair d.d (.pair (.bool b) .unit))/\(c.good=true->(Was c n m->b=true)/\(b=true->∃k,∃h:k<c.last.length,c.last[k].client=n/\c.last[k].no=m/\d=c.last[k])):=by
 have hI:=z73 hc
 have f1:c.d.fld 1=.lst (c.last.map Dn.d):=rfl
 have hll:(D.lst (c.last.map Dn.d)).l=c.last.map Dn.d:=rfl
 rw[zGc]
 simp only[f1,hll,List.length_map,D.i_int]
 cases hg:c.good with
 | false=>
   rw[hg]at hI;exact⟨Dn.nul,false,z03 hI (z0G rfl rfl),fun h=>by simp at h⟩
 | true=>
   rw[hg]at hI;have hG:=z9p hg;obtain⟨k,b,k1,k2,k3,kb,hfind⟩:=zS0 hG n;have P0:∀x y:D,(D.pair x (.pair y .unit)).fld 0=x:=fun _ _=>rfl;have P1:∀x y:D,(D.pair x (.pair y .unit)).fld 1=y:=fun _ _=>rfl;have hwk:∀k',(h':k'<c.last.length)->c.last[k'].client=n->k'=k:=by
    intro k' h' he;rcases Nat.lt_trichotomy k' k with h | h | h
    ·have:=k2 k' h' h; omega
    ·exact h
    ·have h3:=k3 (by omega);have:=hG.up k k' (by omega) h' h;omega
   cases hb:b with
   | false=>
     rw[hb]at hfind;refine⟨Dn.nul,false,z03 hI (z05 (by simp) (z03 hfind ?_)),fun _=>⟨?_,fun h=>by cases h⟩⟩
     ·simp only[P0,P1,D.b_bool,D.i_int];exact z06 (l:=[.bool true]) (z01 rfl rfl) (z0G rfl rfl)
     ·rintro⟨k',h',w1,w2⟩;have:=hwk k' h' w1;subst this;have:=kb.2 ⟨h',w1⟩;rw[hb]at this; cases this
   | true=>
     obtain⟨hk,hkc⟩:=kb.1 hb;have hgk:gd (c.last.map Dn.d) k=c.last[k].d:=zHK hk;have fk1:(c.last[k].d.fld 1).i=c.last[k].no:=rfl;rw[hb]at hfind;by_cases hno:c.last[k].no=m
     ·refine⟨c.last[k],true,z03 hI (z05 (by simp) (z03 hfind ?_)),fun _=>⟨fun _=>rfl,fun _=>⟨k,hk,hkc,hno,rfl⟩⟩⟩;simp only[P0,P1,D.b_bool,D.i_int,Int.toNat_natCast,hgk,fk1];exact z06 (l:=[.bool false]) (z00 (by simp) (z01 (z0B hk) (by rw[hno]; simp[ou]))) (z05 (by simp) (z0G (z0B hk) rfl))
     ·have hno':(c.last[k].no != m)=true:=by simpa using hno
      refine⟨Dn.nul,false,z03 hI (z05 (by simp) (z03 hfind ?_)),fun _=>⟨?_,fun h=>by cases h⟩⟩
      ·simp only[P0,P1,D.b_bool,D.i_int,Int.toNat_natCast,hgk,fk1,hno'];exact z06 (l:=[.bool true]) (z00 (by simp) (z01 (z0B hk) rfl)) (z0G rfl rfl)
      ·rintro⟨k',h',w1,w2⟩;have:=hwk k' h' w1;subst this;exact absurd w2 hno
theorem zKJ (r:Rec):D.beq r.d r.d=true:=by simp[Rec.d,D.beq]
theorem zFK (x:Dn):D.beq x.d x.d=true:=by simp[Dn.d,D.beq]
theorem zKI (p:Int×Rec):D.beq (chgD p) (chgD p)=true:=by simp[chgD,Rec.d,D.beq]
theorem zIx {xs:List Rec} (hl:xs.length<=smax):z3i.F [.lst (xs.map Rec.d),.lst (xs.map Rec.d)]=some (.bool true):=by
 rw[zCC,if_neg (by simp)]
 refine z0L (z2Q (fun i (_:Unit)=>[.int i]) xs.length (fun _=>()) (t:=1) (o:=[]) rfl ?_ ?_) rfl
 ·intro i hi;simp[hi,z5A hi,z0B hi,z0P hi hl,zKJ]
 ·simp
theorem zID {xs:List Dn} (hl:xs.length<=smax):z3P.F [.lst (xs.map Dn.d),.lst (xs.map Dn.d)]=some (.bool true):=by
 rw[zGo,if_neg (by simp)]
 refine z0L (z2Q (fun i (_:Unit)=>[.int i]) xs.length (fun _=>()) (t:=1) (o:=[]) rfl ?_ ?_) rfl
 ·intro i hi;simp[hi,zHK hi,z0B hi,z0P hi hl,zFK]
 ·simp
theorem zAS {c:Ctl} (hc:c.In lim):z1X.F [c.d,c.d]=some (.bool true):=by
 have h1:=zIx (xs:=c.zone.recs) (Nat.le_trans hc.zone.len z1I)
 have h2:=zID (xs:=c.last) (Nat.le_trans hc.len z1I)
 have hz:z4Z.F [c.zone.d,c.zone.d]=some (.bool true):=by
  rw[zEo];exact z06 (l:=[.bool true]) (z01 (by simp) (z01 (by simp) (z04 h1 rfl))) rfl
 rw[zBD]
 exact z06 (l:=[.bool true]) (z01 (by simp) (z04 hz (z01 rfl (z04 h2 rfl)))) rfl
end Go.Proofs.YtilejnnnkfjmmaaGreatDoor
namespace Go.Proofs.YtilejnnnkfjmmaaGreatDoor
open Go Go.Own
def toT (a:Ask):TAsk:=⟨a.client,a.no,a.ch.map fun p=>⟨p.1,p.2⟩⟩
theorem zTW (a:Ask):(toT a).d=a.d:=by
 unfold toT TAsk.d Ask.d
 rw[List.map_map]
 rfl
theorem zTX {a:Ask} (h:AskI a):(toT a).In lim:=by
 have hi:=h.in
 refine⟨by simpa [toT]using hi.len,fun c hc=>?_⟩
 obtain⟨p,hp,rfl⟩:=List.mem_map.1 hc
 exact hi.all p hp
theorem zLc {a:TAsk} (h:a.ok=true):z7a a.full=zFD a:=by
 unfold z7a
 have h1:∃a':TAsk,a'.ok=true/\a'.full=a.full:=⟨a,h,rfl⟩
 rw[dif_pos h1]
 congr 1
 obtain⟨k1,k2⟩:=h1.choose_spec
 generalize h1.choose=a' at k1 k2
 have i1:=TAsk.ins k1
 have i2:=TAsk.ins h
 have s1:=TAsk.split_full i1
 rw[k2,TAsk.split_full i2]at s1
 obtain⟨e1,e2⟩:=List.cons.inj s1
 have h0:splB 32 a.head=splB 32 a'.head:=by rw[e1]
 unfold TAsk.head at h0
 rw[z56 (z4O (by decide) i1.c0),z56 (z4O (by decide) i2.c0),z3n (s:=Lib.itoa a.no) (z4O (by decide) (by have:=i2.n0; omega)),z3n (s:=Lib.itoa a'.no) (z4O (by decide) (by have:=i1.n0; omega))]at h0
 simp only[List.cons.injEq,and_true]at h0
 have c1:=zBQ i2.c0 i1.c0 h0.1
 have c2:=zBQ (by have:=i2.n0; omega) (by have:=i1.n0; omega) h0.2
 have m1:=z7B (pl:=TplS) (cs:=a.cs) fun c hc=>zFG (i2.all c hc)
 have m2:=z7B (pl:=TplS) (cs:=a'.cs) fun c hc=>zFG (i1.all c hc)
 rw[e2,m2]at m1
 obtain⟨x,y,z⟩:=a
 obtain⟨x',y',z'⟩:=a'
 simp only at c1 c2
 simp only[Option.some.injEq]at m1
 rw[c1,c2,m1]
theorem zRF {a:TAsk} (h:a.ok=true):a.full.length<=5000:=by
 have hp18:(10:Int) ^ 18=1000000000000000000:=by decide
 have hi:=TAsk.ins h
 have:=TAsk.text_len (a:=a) ⟨hi.c0,by have:=hi.c1; omega⟩ ⟨by have:=hi.n0; omega,by have:=hi.n1; omega⟩ (fun c hc=>TChg.sizes (hi.all c hc)) a.cs.length (Nat.le_refl _)
 have:=hi.len
 unfold TAsk.full
 omega
def tB:T:=.lst false (.int .u8)
theorem zOX {x y:D} (hx:Sm smax (.lst false (.int .u8)) x) (hy:Sm smax (.lst false (.int .u8)) y):z8Y.F [x,y]=some (.bool true):=by
 have hlim:lim=1048576:=rfl
 obtain⟨bs,rfl,hb⟩:=zKM hx
 obtain⟨ms,rfl,hm⟩:=zKM hy
 rw[zJl]
 by_cases hbig:IntKind.wrap .i64 (((D.lst bs).l.length:Int)+((D.lst ms).l.length:Int)) > 1048576
 ·exact z0G (decide_eq_true hbig) rfl
 refine z05 (fun h=>hbig (of_decide_eq_true h)) ?_
 obtain⟨c,a,hdr,hc,ha⟩:=zOF hb
 have hai:=ha.in
 obtain⟨c',d,b,hc',hgood,hts,hI,hS⟩:=zDi hc hai
 have hsc':=zAS hc'
 have hg1:=z73 hc
 have hg2:=z8A hc
 have P0:∀u v:D,(D.pair u (.pair v .unit)).fld 0=u:=fun _ _=>rfl
 have P1:∀u v:D,(D.pair u (.pair v .unit)).fld 1=v:=fun _ _=>rfl
 have T0:∀(c:Ctl) (d:Dn) (b:Bool),(takD c d b).fld 0=c.d:=fun _ _ _=>rfl
 have T1:∀(c:Ctl) (d:Dn) (b:Bool),(takD c d b).fld 1=d.d:=fun _ _ _=>rfl
 have T2:∀(c:Ctl) (d:Dn) (b:Bool),((takD c d b).fld 2).b=b:=fun _ _ _=>rfl
 have a0:a.d.fld 0=.int a.client:=rfl
 have a1:a.d.fld 1=.int a.no:=rfl
 have m0:∀c:Ctl,(c.d.fld 2).i=c.many:=fun _=>rfl
 have hbd:=zFK d
 refine z03 hdr ?_
 rw[P0,P1]
 refine z03 hI (z03 hS ?_)
 simp only[T0,T1,T2,a0,a1,m0]
 refine z06 (l:=[.bool false]) (z00 (by simp) (z00 (by simp[hbd]) (z04 hsc' (z00 (by simp) (z04 hg1 (z04 hg2 (by simp))))))) (z05 (by simp) ?_)
 -- the second part
 obtain⟨s,l,hdp,hs,hl,hlx⟩:=zOE hm
 obtain⟨p,ds,pb,hp,_,hds,hPI,hPS⟩:=zFR (apex:=s) (l:=l) (by omega) (by omega) (fun a ha=>(hlx a ha).in)
 have hsp:=zAS hp
 have hsd:=zID (xs:=ds) (by rw[z0c]; omega)
 have Q0:(plyD p ds pb).fld 0=p.d:=rfl
 have Q1:(plyD p ds pb).fld 1=.lst (ds.map Dn.d):=rfl
 have Q2:((plyD p ds pb).fld 2).b=pb:=rfl
 obtain⟨r,hdt,hr⟩:=zOG hm
 have hri:=zTX hr
 have hTI:=zDc hri
 have hTS:=zDd hri
 rw[zTW]at hTI hTS
 refine z0L (r:=(0,[])) ?_ (z8p (z03 hdp ?_))
 ·-- asked again
  cases hb':b with
  | false=>exact z00 (by simp) rfl
  | true=>
    subst hb';obtain⟨hgc,hgc'⟩:=hgood rfl;have hS':=hts hgc;obtain⟨hw,hres⟩:=hS'.res rfl;have hmem:d∈c'.last/\d.client=a.client/\d.no=a.no:=by
     rcases hres with ⟨k,hk,k1,k2,rfl,rfl⟩ | ⟨_,_,e1,e2,_,_,e3,_⟩
     ·exact⟨List.getElem_mem hk,k1,k2⟩
     ·exact⟨e3,e1,e2⟩
    have hag:=zSR hc' hai hgc' hw hmem.1 hmem.2.1 hmem.2.2;have hgI':=z73 hc';rw[hgc']at hgI';obtain⟨d2,b2,han,han2⟩:=zNY hc' a.client a.no;obtain⟨hx1,hx2⟩:=han2 hgc';have hb2:=hx1 (zSF hmem.1 hmem.2.1 hmem.2.2);subst hb2;obtain⟨k,hk,k1,k2,rfl⟩:=hx2 rfl;have hd2:c'.last[k]=d:=by
     obtain⟨i,hi,rfl⟩:=List.getElem_of_mem hmem.1;have:=zDC (z9p hgc') hi hk (by rw[hmem.2.1,k1]);subst this; rfl
    rw[hd2]at han;obtain⟨d3,b3,hao,hao2⟩:=zNY hc a.client a.no;obtain⟨hy1,hy2⟩:=hao2 hgc;refine z01 rfl (z04 hag (z04 han ?_));simp only[T0,T1,T2,P0,P1,m0,D.b_bool];refine z0b (l:=[.bool false]) (z00 (by simp) (z00 (by simp[hbd]) (z04 hsc' (z00 (by simp) (z00 (by simp) (z00 (by simp[hbd]) ?_)))))) (z00 (by simp) (z04 hao ?_))
    ·rcases hres with ⟨k,hk,_,_,rfl,_⟩ | ⟨_,e1,_⟩
     ·exact z00 (by simp) (z04 hgI' rfl)
     ·have hmw:IntKind.wrap .i64 (c.many+1)=c.many+1:=by
       have:=(z9p hgc).many;rw[z0f] <;> omega
      rw[e1,hmw];refine z01 (by simp; omega) (z00 (by simp) (z04 hgI' rfl))
    ·simp only[P0,P1,D.b_bool];refine z0b (l:=[.bool false]) ?_ (z00 (by simp) rfl);rcases hres with ⟨k,hk,j1,j2,rfl,rfl⟩ | ⟨hn,e1,_⟩
     ·have hb3:=hy1 ⟨k,hk,j1,j2⟩;subst hb3;obtain⟨k',hk',j1',j2',rfl⟩:=hy2 rfl;have:=zDC (z9p hgc) hk hk' (by rw[j1,j1']);subst this;exact z00 (by simp) (z01 rfl (z00 (by simp[hbd]) (z04 hsc' rfl)))
     ·have hb3:b3=false:=by
       cases h3:b3 with
       | false=>rfl
       | true=>
         obtain⟨k',hk',j1',j2',_⟩:=hy2 h3;exact absurd ⟨k',hk',j1',j2'⟩ hn
      subst hb3;refine z00 (by rw[e1]; simp; omega) (z00 (by simp) rfl)
 ·rw[P0,P1];refine z03 hPI (z03 hPS ?_);rw[Q0,Q1,Q2];refine z06 (l:=[.bool false]) (z00 (by simp) (z04 hsd (z00 (by simp) (z04 hsp rfl)))) (z05 (by simp) (z03 hdt (z03 hTI (z03 hTS ?_))));refine z06 (l:=[.bool false]) (z00 (by simp) (by simp)) (z05 (by simp) ?_);unfold zFE
  cases hok:(toT r).ok with
  | false=>exact z0G rfl rfl
  | true=>
    have hfl:=zRF hok;have hrd:=zDz (s:=(toT r).full) (by omega);rw[zLc hok]at hrd;have hch:r.ch.length<=smax:=by rw[z0c]; have:=hr.1; omega
    have y0:(zFD (toT r)).fld 0=r.d:=zTW r;have y1:((zFD (toT r)).fld 1).b=true:=rfl;have r2:(r.d.fld 2).l=r.ch.map chgD:=rfl;refine z05 (by simp) (z03 hrd ?_);rw[y0,y1];refine z06 (l:=[.bool false]) (z00 (by simp) (z00 (by simp) (z00 (by simp) (by simp)))) (z05 (by simp) ?_);simp only[r2,List.length_map];refine z0L (z2Q (fun i (_:Unit)=>[.int i]) r.ch.length (fun _=>()) (t:=1) (o:=[]) rfl ?_ ?_) rfl
    ·intro i hi;have hg:gd (r.ch.map chgD) i=chgD r.ch[i]:=zKr hi;simp[hi,hg,z0B hi,z0P hi hch,zKI]
    ·simp
end Go.Proofs.YtilejnnnkfjmmaaGreatDoor
