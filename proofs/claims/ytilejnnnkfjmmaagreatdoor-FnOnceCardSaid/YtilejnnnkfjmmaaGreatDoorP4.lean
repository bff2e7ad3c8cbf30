/- What the functions compute, in plain words. -/
import Derived.Test.YtilejnnnkfjmmaaGreatDoorP3
set_option linter.unusedSectionVars false
set_option linter.unusedVariables false
set_option linter.unusedSimpArgs false
namespace Go.Proofs.YtilejnnnkfjmmaaGreatDoor
open Go Go.Own
structure Dn where
 client:Int
 no:Int
 code:Int
 serial:Int
def Dn.d (x:Dn):D:=.pair (.int x.client) (.pair (.int x.no) (.pair (.int x.code) (.pair (.int x.serial) .unit)))
def Dn.nul:Dn:=⟨0,0,0,0⟩
structure Ctl where
 zone:Zn
 last:List Dn
 many:Int
def Ctl.d (c:Ctl):D:=.pair c.zone.d (.pair (.lst (c.last.map Dn.d)) (.pair (.int c.many) .unit))
structure Ctl.In (B:Nat) (c:Ctl):Prop where
 zone:c.zone.In B
 len:c.last.length<=B
theorem zHK {xs:List Dn} {i:Nat} (hi:i<xs.length):gd (xs.map Dn.d) i=xs[i].d:=z7L hi
def who (a b:Int):Bool:=inP a 0 100&&inP b 1 1000
theorem zIA (a b:Int):z1n.F [.int a,.int b]=some (.bool (who a b)):=by
 rw[z9f]
 have h1:=z4u a 0 100
 have h2:=z4u b 1 1000
 unfold who
 refine z06 (l:=[.bool (inP a 0 100&&inP b 1 1000)]) ?_ rfl
 cases h:inP a 0 100 with
 | false=>rw[h]at h1; exact z04 h1 (z00 (by simp) rfl)
 | true=>rw[h]at h1; exact z04 h1 (z01 rfl (z04 h2 rfl))
theorem zNa (a b:Int):z2i.F [.int a,.int b]=some (.bool (who a b)):=by
 rw[zCE]
 have h1:=z7J a 0 100
 have h2:=z7J b 1 1000
 unfold who
 refine z06 (l:=[.bool (inP a 0 100&&inP b 1 1000)]) ?_ rfl
 cases h:inP a 0 100 with
 | false=>rw[h]at h1; exact z04 h1 (z00 (by simp) rfl)
 | true=>rw[h]at h1; exact z04 h1 (z01 rfl (z04 h2 rfl))
theorem zOJ (a:Int):z4q.F [.int a]=some (.bool (inP a 0 4294967295)):=by
 rw[zGi]; exact z03 (z4u a 0 4294967295) rfl
theorem zOM (a:Int):z4t.F [.int a]=some (.bool (inP a 0 4294967295)):=by
 rw[zGv]; exact z03 (z7J a 0 4294967295) rfl
def dnOk (xs:List Dn) (i:Nat):Bool:=who (xs.getD i Dn.nul).client (xs.getD i Dn.nul).no&&(inP (xs.getD i Dn.nul).code 0 4&&(inP (xs.getD i Dn.nul).serial 0 4294967295&&(i==0||decide ((xs.getD (i-1) Dn.nul).client<(xs.getD i Dn.nul).client))))
noncomputable def Ctl.good (c:Ctl):Bool:=c.zone.good&&(inP c.many 0 1000000&&(decide (c.last.length<=8)&&allN c.last.length (dnOk c.last)))
theorem z73 {c:Ctl} (hc:c.In lim):z0z.F [c.d]=some (.bool c.good):=by
 have hsm:=Nat.le_trans hc.len z1I
 rw[zCA]
 have f0:c.d.fld 0=c.zone.d:=rfl
 have f1:(c.d.fld 1).l=c.last.map Dn.d:=rfl
 have f2:c.d.fld 2=.int c.many:=rfl
 rw[f0,f2]
 simp only[f1,List.length_map]
 have h1:=zI7 hc.zone
 have h2:=z4u c.many 0 1000000
 unfold Ctl.good
 cases k1:c.zone.good with
 | false=>rw[k1]at h1; exact z06 (l:=[.bool true]) (z04 h1 (z01 rfl rfl)) (z0G rfl rfl)
 | true=>
   rw[k1]at h1
   cases k2:inP c.many 0 1000000 with
   | false=>rw[k2]at h2; exact z06 (l:=[.bool true]) (z04 h1 (z00 (by simp) (z04 h2 (z01 rfl rfl)))) (z0G rfl rfl)
   | true=>
     rw[k2]at h2;by_cases k3:c.last.length<=8
     ·have e3:decide ((c.last.length:Int) > 8)=false:=decide_eq_false (by omega);have e3':decide (c.last.length<=8)=true:=decide_eq_true k3;rw[e3',Bool.true_and,Bool.true_and,Bool.true_and];refine z06 (l:=[.bool false]) (z04 h1 (z00 (by simp) (z04 h2 (z00 (by simp) (by rw[e3]))))) (z05 (by simp) ?_);refine z0L (z38 (fun i=>[.int i]) c.last.length (dnOk c.last) (t1:=0) (t2:=1) (o1:=[.bool false]) (o2:=[]) rfl ?_ (by exact z00 (by simp) rfl)) ?_
      ·intro i hi;have e0:(gd [D.int (i:Int)] 0).i.toNat=i:=by simp
       have e1:(gd [D.int (i:Int)] 0).i=i:=rfl;have g0:c.last[i].d.fld 0=.int c.last[i].client:=rfl;have g1:c.last[i].d.fld 1=.int c.last[i].no:=rfl;have g2:c.last[i].d.fld 2=.int c.last[i].code:=rfl;have g3:c.last[i].d.fld 3=.int c.last[i].serial:=rfl;rw[e0,e1,z0P hi hsm,zHK hi,g0,g1,g2,g3];refine z01 (by simpa using hi) (z01 (by simpa using z0B hi) (z0w (r:=(0,[.bool !(dnOk c.last i)])) ?_ (sel0 (by cases dnOk c.last i <;> simp))));unfold dnOk;rw[z0E hi];have q1:=zIA c.last[i].client c.last[i].no;have q2:=z4u c.last[i].code 0 4;have q3:=zOJ c.last[i].serial
       cases r1:who c.last[i].client c.last[i].no with
       | false=>rw[r1]at q1; exact z04 q1 (z01 rfl rfl)
       | true=>
         rw[r1]at q1
         cases r2:inP c.last[i].code 0 4 with
         | false=>rw[r2]at q2; exact z04 q1 (z00 (by simp) (z04 q2 (z01 rfl rfl)))
         | true=>
           rw[r2]at q2
           cases r3:inP c.last[i].serial 0 4294967295 with
           | false=>rw[r3]at q3; exact z04 q1 (z00 (by simp) (z04 q2 (z00 (by simp) (z04 q3 (z01 rfl rfl)))))
           | true=>
             rw[r3]at q3;refine z04 q1 (z00 (by simp) (z04 q2 (z00 (by simp) (z04 q3 (z00 (by simp) ?_)))));by_cases h0:i=0
             ·subst h0; exact z00 (by simp) rfl
             ·have w:IntKind.wrap .i64 ((i:Int)-1)=((i-1:Nat):Int):=by rw[z0c]at hsm; rw[z0f] <;> omega
              have hi1:i-1<c.last.length:=by omega
              refine z01 (decide_eq_true (by omega)) (z01 (by rw[w]; exact z0B hi1) ?_);rw[w,Int.toNat_natCast,zHK hi1,z0E hi1];have g0':c.last[i-1].d.fld 0=.int c.last[i-1].client:=rfl;rw[g0',D.i_int,D.i_int];have:decide (c.last[i].client<=c.last[i-1].client) = !(decide (c.last[i-1].client<c.last[i].client)):=by
               rw[Bool.eq_iff_iff]; simp
              have h0':(i==0)=false:=by simpa using h0
              rw[this,h0']; rfl
      ·cases allN c.last.length (dnOk c.last) <;> rfl
     ·have e3:decide ((c.last.length:Int) > 8)=true:=decide_eq_true (by omega);have e3':decide (c.last.length<=8)=false:=decide_eq_false k3;rw[e3'];exact z06 (l:=[.bool true]) (z04 h1 (z00 (by simp) (z04 h2 (z00 (by simp) (by rw[e3]))))) (z0G rfl rfl)
theorem z8A {c:Ctl} (hc:c.In lim):z27.F [c.d]=some (.bool c.good):=by
 have hsm:=Nat.le_trans hc.len z1I
 rw[zCD]
 have f0:c.d.fld 0=c.zone.d:=rfl
 have f1:(c.d.fld 1).l=c.last.map Dn.d:=rfl
 have f2:c.d.fld 2=.int c.many:=rfl
 rw[f0,f2]
 simp only[f1,List.length_map]
 have h1:=zAT hc.zone
 have h2:=z7J c.many 0 1000000
 unfold Ctl.good
 refine z0L (z38 (fun i=>[.int i]) c.last.length (dnOk c.last) (t1:=0) (t2:=1) (o1:=[]) (o2:=[]) rfl ?_ (by exact z00 (by simp) rfl)) ?_
 ·intro i hi;have e0:(gd [D.int (i:Int)] 0).i.toNat=i:=by simp
  have e1:(gd [D.int (i:Int)] 0).i=i:=rfl;have g0:c.last[i].d.fld 0=.int c.last[i].client:=rfl;have g1:c.last[i].d.fld 1=.int c.last[i].no:=rfl;have g2:c.last[i].d.fld 2=.int c.last[i].code:=rfl;have g3:c.last[i].d.fld 3=.int c.last[i].serial:=rfl;rw[e0,e1,z0P hi hsm,zHK hi,g0,g1,g2,g3];refine z01 (by simpa using hi) (z01 (by simpa using z0B hi) (z0w (r:=(0,[.bool !(dnOk c.last i)])) ?_ (sel0 (by cases dnOk c.last i <;> simp))));unfold dnOk;rw[z0E hi];have q1:=zNa c.last[i].client c.last[i].no;have q2:=z7J c.last[i].code 0 4;have q3:=zOM c.last[i].serial
  cases r1:who c.last[i].client c.last[i].no with
  | false=>rw[r1]at q1; exact z04 q1 (z01 rfl rfl)
  | true=>
    rw[r1]at q1
    cases r2:inP c.last[i].code 0 4 with
    | false=>rw[r2]at q2; exact z04 q1 (z00 (by simp) (z04 q2 (z01 rfl rfl)))
    | true=>
      rw[r2]at q2
      cases r3:inP c.last[i].serial 0 4294967295 with
      | false=>rw[r3]at q3; exact z04 q1 (z00 (by simp) (z04 q2 (z00 (by simp) (z04 q3 (z01 rfl rfl)))))
      | true=>
        rw[r3]at q3;refine z04 q1 (z00 (by simp) (z04 q2 (z00 (by simp) (z04 q3 (z00 (by simp) ?_)))));by_cases h0:i=0
        ·subst h0; exact z00 (by simp) rfl
        ·have w:IntKind.wrap .i64 ((i:Int)-1)=((i-1:Nat):Int):=by rw[z0c]at hsm; rw[z0f] <;> omega
         have hi1:i-1<c.last.length:=by omega
         refine z01 (decide_eq_true (by omega)) (z01 (by rw[w]; exact z0B hi1) ?_);rw[w,Int.toNat_natCast,zHK hi1,z0E hi1];have g0':c.last[i-1].d.fld 0=.int c.last[i-1].client:=rfl;rw[g0',D.i_int,D.i_int];have:decide (c.last[i-1].client >= c.last[i].client) = !(decide (c.last[i-1].client<c.last[i].client)):=by
          rw[Bool.eq_iff_iff]; simp
         have h0':(i==0)=false:=by simpa using h0
         rw[this,h0']; simp
 ·cases k4:allN c.last.length (dnOk c.last)with
  | false=>rw[Bool.and_false,Bool.and_false,Bool.and_false]; rfl
  | true=>
    rw[Bool.and_true];refine z06 (l:=[.bool (c.zone.good&&(inP c.many 0 1000000&&decide (c.last.length<=8)))]) ?_ rfl
    cases k1:c.zone.good with
    | false=>rw[k1]at h1; exact z04 h1 (z00 (by simp) rfl)
    | true=>
      rw[k1]at h1
      cases k2:inP c.many 0 1000000 with
      | false=>rw[k2]at h2; exact z04 h1 (z01 rfl (z04 h2 (z00 (by simp) rfl)))
      | true=>
        rw[k2]at h2;have:decide ((c.last.length:Int)<=8)=decide (c.last.length<=8):=by rw[Bool.eq_iff_iff]; simp; omega
        exact z04 h1 (z01 rfl (z04 h2 (z01 rfl (by rw[this]; rfl))))
abbrev zTT:T:=.pair (.int .i64) (.pair (.int .i64) (.pair (.int .i64) (.pair (.int .i64) .unit)))
abbrev tCtl:T:=.pair zTU (.pair (.lst false zTT) (.pair (.int .i64) .unit))
theorem zSP {B:Nat} {d:D} (h:Sm B zTT d):∃x:Dn,d=x.d/\True:=by
 obtain⟨_,_,rfl,⟨a,rfl,_⟩,_,_,rfl,⟨b,rfl,_⟩,_,_,rfl,⟨c,rfl,_⟩,_,_,rfl,⟨e,rfl,_⟩,rfl⟩:=h
 exact⟨⟨a,b,c,e⟩,rfl,trivial⟩
theorem ctl_of {B:Nat} {d:D} (h:Sm B tCtl d):∃c:Ctl,d=c.d/\c.In B:=by
 obtain⟨_,_,rfl,hz,_,_,rfl,⟨xs,rfl,hl,hc⟩,_,_,rfl,⟨n,rfl,_⟩,rfl⟩:=h
 obtain⟨z,rfl,hz2⟩:=zSv hz
 obtain⟨ys,rfl,_⟩:=zMk (g:=Dn.d) (Q:=fun _=>True) (fun x hx=>zSP (hc x hx))
 exact⟨⟨z,ys,n⟩,rfl,hz2,by simpa using hl⟩
def dnZ:D:=.pair (.int 0) (.pair (.int 0) (.pair (.int 0) (.pair (.int 0) .unit)))
theorem Ctl.In.smax {c:Ctl} (h:c.In lim):c.In smax:=⟨h.zone.smax,Nat.le_trans h.len z1I⟩
def ctlNul:D:=.pair zNul (.pair (D.lst []) (.pair (.int 0) .unit))
def newC (apex:List UInt8):Ctl:=⟨newZ apex,[],0⟩
def nulC:Ctl:=⟨⟨[],0,[]⟩,[],0⟩
def z5Z (apex:List UInt8):Ctl:=if z7M apex=true then newC apex else nulC
def zOh (apex:List UInt8):D:=.pair (z5Z apex).d (.pair (.bool (z7M apex)) .unit)
theorem zKb {apex:List UInt8} (h:apex.length<=lim):z3z.F [.str apex]=some (zOh apex):=by
 rw[zDH]
 refine z03 (zPS h) ?_
 unfold zOj zOh z5Z
 cases z7M apex with
 | false=>exact z0G rfl rfl
 | true=>exact z05 (by simp[D.fld]) rfl
theorem zE2 {apex:List UInt8} (h:apex.length<=lim):z48.F [.str apex]=some (zOh apex):=by
 rw[zDP]
 refine z03 (zIy h) ?_
 unfold zOj zOh z5Z
 cases z7M apex with
 | false=>exact z0G rfl rfl
 | true=>exact z05 (by simp[D.fld]) rfl
theorem zRV {apex:List UInt8} (h:apex.length<=lim):(z5Z apex).In lim/\(z5Z apex).zone.recs.length<=1/\(z5Z apex).last=[]:=by
 unfold z5Z
 split
 ·exact⟨⟨zQ3 h,by simp[newC]⟩,by simp[newC,newZ],rfl⟩
 ·exact⟨⟨⟨by simp[nulC],by simp[nulC],by simp[nulC]⟩,by simp[nulC]⟩,by simp[nulC],rfl⟩
end Go.Proofs.YtilejnnnkfjmmaaGreatDoor
namespace Go.Proofs.YtilejnnnkfjmmaaGreatDoor
open Go Go.Own
theorem zRU {a b:Nat} (h:a+b<=4*lim):IntKind.wrap .i64 ((IntKind.wrap .u64 (IntKind.wrap .i64 ((a:Int)+(b:Int)))).fdiv (2 ^ min 1 (IntKind.bits .u64)))=(((a+b) / 2:Nat):Int):=by
 have hlim:lim=1048576:=rfl
 have w1:IntKind.wrap .i64 ((a:Int)+(b:Int))=((a+b:Nat):Int):=by rw[z0f] <;> omega
 have w2:IntKind.wrap .u64 ((a+b:Nat):Int)=((a+b:Nat):Int):=by
  have:IntKind.wrap .u64 ((a+b:Nat):Int)=((a+b:Nat):Int) % 2 ^ 64:=by simp[IntKind.wrap,IntKind.bits,IntKind.signed]
  rw[this]; omega
 have e:min 1 (IntKind.bits .u64)=1:=rfl
 rw[w1,w2,e,zIz,show(2:Nat) ^ 1=2 from rfl,z0f] <;> omega
theorem zRw {α:Type} {f:α->D} {c:D->Option D} {xs:List α} {cv:α->Int} (hl:xs.length<=lim) (hc:∀x∈xs,c (f x)=some (.int (cv x)))
 (mono:∀i j (hi:i<xs.length) (hj:j<xs.length),i<=j->cv xs[j]<0->cv xs[i]<0) :
 ∃k:Nat,k<=xs.length/\(∀i (hi:i<xs.length),i<k->cv xs[i]<0)/\(∀i (hi:i<xs.length),k<=i->0<=cv xs[i])/\∃b:Bool,(b=true↔∃h:k<xs.length,cv xs[k]=0)/\rn ((z0d (fun l3=>
  if (decide ((gd l3 0).i<(gd l3 1).i))then
   if (decide (0<=1))then
   if (inb (IntKind.wrap .i64 ((IntKind.wrap .u64 (IntKind.wrap .i64 ((gd l3 0).i+(gd l3 1).i))).fdiv (2 ^ min 1 (IntKind.bits .u64)))) (D.lst (xs.map f)).l.length)then
   (c (gd (D.lst (xs.map f)).l (IntKind.wrap .i64 ((IntKind.wrap .u64 (IntKind.wrap .i64 ((gd l3 0).i+(gd l3 1).i))).fdiv (2 ^ min 1 (IntKind.bits .u64)))).toNat)).bind fun r5=>
   if (decide (r5.i<0))then
    ou 0 [(.int (IntKind.wrap .i64 ((IntKind.wrap .i64 ((IntKind.wrap .u64 (IntKind.wrap .i64 ((gd l3 0).i+(gd l3 1).i))).fdiv (2 ^ min 1 (IntKind.bits .u64))))+1))),(gd l3 1)]
   else
    ou 0 [(gd l3 0),(.int (IntKind.wrap .i64 ((IntKind.wrap .u64 (IntKind.wrap .i64 ((gd l3 0).i+(gd l3 1).i))).fdiv (2 ^ min 1 (IntKind.bits .u64)))))]
   else none
   else none
  else
   ou 1 [(gd l3 0)]) [(.int 0),(.int ((D.lst (xs.map f)).l.length:Int))]).bind fun o3=>
 sel2 o3.1 ((if (decide ((gd o3.2 0).i<((D.lst (xs.map f)).l.length:Int)))then
  if (inb (gd o3.2 0).i (D.lst (xs.map f)).l.length)then
  (c (gd (D.lst (xs.map f)).l (gd o3.2 0).i.toNat)).bind fun r4=>
  ou 0 [(gd o3.2 0),(.bool (r4.i==0))]
  else none
  else
   ou 0 [(gd o3.2 0),(.bool false)]).bind fun o4=>
  sel2 o4.1 (ou 0 [(.pair (gd o4.2 0) (.pair (gd o4.2 1) .unit))]) fun _=>none) fun _=>none)=some (.pair (.int k) (.pair (.bool b) .unit)):=by
 have hlim:lim=1048576:=rfl
 have hlen:(D.lst (xs.map f)).l.length=xs.length:=by simp
 rw[hlen]
 have key:∀(m lo hi:Nat),hi-lo<=m->lo<=hi->hi<=xs.length->(∀i (h:i<xs.length),i<lo->cv xs[i]<0)->(∀i (h:i<xs.length),hi<=i->0<=cv xs[i]) ->
  ∃k:Nat,k<=xs.length/\(∀i (hi:i<xs.length),i<k->cv xs[i]<0)/\(∀i (hi:i<xs.length),k<=i->0<=cv xs[i])/\z0d (fun l3=>
  if (decide ((gd l3 0).i<(gd l3 1).i))then
   if (decide (0<=1))then
   if (inb (IntKind.wrap .i64 ((IntKind.wrap .u64 (IntKind.wrap .i64 ((gd l3 0).i+(gd l3 1).i))).fdiv (2 ^ min 1 (IntKind.bits .u64)))) xs.length)then
   (c (gd (D.lst (xs.map f)).l (IntKind.wrap .i64 ((IntKind.wrap .u64 (IntKind.wrap .i64 ((gd l3 0).i+(gd l3 1).i))).fdiv (2 ^ min 1 (IntKind.bits .u64)))).toNat)).bind fun r5=>
   if (decide (r5.i<0))then
    ou 0 [(.int (IntKind.wrap .i64 ((IntKind.wrap .i64 ((IntKind.wrap .u64 (IntKind.wrap .i64 ((gd l3 0).i+(gd l3 1).i))).fdiv (2 ^ min 1 (IntKind.bits .u64))))+1))),(gd l3 1)]
   else
    ou 0 [(gd l3 0),(.int (IntKind.wrap .i64 ((IntKind.wrap .u64 (IntKind.wrap .i64 ((gd l3 0).i+(gd l3 1).i))).fdiv (2 ^ min 1 (IntKind.bits .u64)))))]
   else none
   else none
  else
   ou 1 [(gd l3 0)]) [.int lo,.int hi]=some (0,[.int k]):=by
  intro m
  induction m with
  | zero=>
    intro lo hi h1 h2 h3 h4 h5;have:lo=hi:=by omega
    subst this;exact⟨lo,h3,h4,h5,z1B (z00 (by simp) rfl)⟩
  | succ m ih=>
    intro lo hi h1 h2 h3 h4 h5;by_cases hlt:lo<hi
    ·have hm:=zRU (a:=lo) (b:=hi) (by omega);have hmid:(lo+hi) / 2<xs.length:=by omega
     have g0:(gd [D.int (lo:Int),D.int (hi:Int)] 0).i=(lo:Int):=rfl;have g1:(gd [D.int (lo:Int),D.int (hi:Int)] 1).i=(hi:Int):=rfl;have hcm:=hc _ (List.getElem_mem hmid);by_cases hneg:cv xs[(lo+hi) / 2]<0
     ·obtain⟨k,k1,k2,k3,k4⟩:=ih ((lo+hi) / 2+1) hi (by omega) (by omega) h3 (fun i h hi'=>mono i _ h hmid (by omega) hneg) h5;refine⟨k,k1,k2,k3,?_⟩;rw[z1m (l':=[.int (((lo+hi) / 2+1:Nat):Int),.int hi]) ?_]
      ·exact k4
      ·have w:IntKind.wrap .i64 ((((lo+hi) / 2:Nat):Int)+1)=(((lo+hi) / 2+1:Nat):Int):=by rw[z0f] <;> omega
       rw[g0,g1,hm,w];refine z01 (decide_eq_true (by omega)) (z01 (by decide) (z01 (z0B hmid) ?_));rw[Int.toNat_natCast,D.l_lst,z7L hmid];exact z04 hcm (z01 (decide_eq_true hneg) rfl)
     ·obtain⟨k,k1,k2,k3,k4⟩:=ih lo ((lo+hi) / 2) (by omega) (by omega) (by omega) h4 (fun i h hi'=>by
       by_cases hn:cv xs[i]<0
       ·exact absurd (mono _ i hmid h hi' hn) hneg
       ·omega)
      refine⟨k,k1,k2,k3,?_⟩;rw[z1m (l':=[.int lo,.int (((lo+hi) / 2:Nat):Int)]) ?_]
      ·exact k4
      ·rw[g0,g1,hm];refine z01 (decide_eq_true (by omega)) (z01 (by decide) (z01 (z0B hmid) ?_));rw[Int.toNat_natCast,D.l_lst,z7L hmid];exact z04 hcm (z00 (fun h=>hneg (of_decide_eq_true h)) rfl)
    ·have:lo=hi:=by omega
     subst this;exact⟨lo,h3,h4,h5,z1B (z00 (by simp) rfl)⟩
 obtain⟨k,k1,k2,k3,k4⟩:=key xs.length 0 xs.length (by omega) (by omega) (Nat.le_refl _) (fun i h hi=>by omega) (fun i h hi=>by omega)
 by_cases hk:k<xs.length
 ·refine⟨k,k1,k2,k3,(cv xs[k]==0),?_,z0L k4 (z06 (l:=[.int k,.bool (cv xs[k]==0)]) (z01 (decide_eq_true (by simp; omega)) (z01 (z0B hk) ?_)) rfl)⟩
  ·simp only[beq_iff_eq];exact⟨fun h=>⟨hk,h⟩,fun⟨_,h⟩=>h⟩
  ·simp only[z16,D.i_int,Int.toNat_natCast,D.l_lst,z7L hk];exact z04 (hc _ (List.getElem_mem hk)) rfl
 ·refine⟨k,k1,k2,k3,false,?_,z0L k4 (z06 (l:=[.int k,.bool false]) (z00 (fun h=>hk ?_) rfl) rfl)⟩
  ·constructor
   ·intro h; cases h
   ·rintro⟨h,_⟩; exact absurd h hk
  ·have h':(k:Int)<(xs.length:Int):=of_decide_eq_true h;omega
end Go.Proofs.YtilejnnnkfjmmaaGreatDoor
namespace Go.Proofs.YtilejnnnkfjmmaaGreatDoor
open Go Go.Own
theorem zNO {n m k:Nat} (h:UInt8.ofNat (zIl n k).i.toNat=UInt8.ofNat (zIl m k).i.toNat):n / 2 ^ (8*k) % 256=m / 2 ^ (8*k) % 256:=by
 have e:∀x:Nat,(UInt8.ofNat (D.int (IntKind.wrap .u8 ((x:Nat):Int))).i.toNat).toNat=x % 256:=by
  intro x;have:IntKind.wrap .u8 (x:Int)=((x % 256:Nat):Int):=by simp[IntKind.wrap,IntKind.bits,IntKind.signed]
  rw[this,D.i_int,Int.toNat_natCast];simp
 have:=congrArg UInt8.toNat h
 unfold zIl at this
 rwa [e,e]at this
theorem zNK:∀(c n m:Nat),bigB n c=bigB m c->n % 2 ^ (8*c)=m % 2 ^ (8*c)
 | 0,n,m,_=>by simp[Nat.mod_one]
 | c+1,n,m,h=>by
   unfold bigB z0k bigL at h;simp only[List.map_cons,List.cons.injEq]at h;have h1:=zNO h.1;have h2:=zNK c n m h.2;rw[show 2 ^ (8*(c+1))=2 ^ (8*c)*256 by rw[Nat.mul_add,Nat.pow_add],Nat.mod_mul,Nat.mod_mul,h1,h2]
theorem zIi {c n m:Nat} (hn:n<2 ^ (8*c)) (hm:m<2 ^ (8*c)) (h:bigB n c=bigB m c):n=m:=by
 have:=zNK c n m h
 rwa [Nat.mod_eq_of_lt hn,Nat.mod_eq_of_lt hm]at this
theorem zMo {s t:List UInt8} {m m':Int} (hs:z35 s m=true) (ht:z35 t m'=true) (h:dv s=dv t):s=t:=by
 unfold z35 at hs ht
 simp only[Bool.and_eq_true]at hs ht
 rw[(z7C s).1 hs.1,(z7C t).1 ht.1,h]
theorem zKD {ps qs:List (List UInt8)}:∀i,i<=ps.length->i<=qs.length->(∀p∈ps,z35 p 255=true)->(∀p∈qs,z35 p 255=true)->z8T ps i=z8T qs i->ps.take i=qs.take i
 | 0,_,_,_,_,_=>rfl
 | i+1,h1,h2,hp,hq,h=>by
   rw[z8T,z8T]at h;have hl:(z8T ps i).length=(z8T qs i).length:=by rw[zBS,zBS]
   obtain⟨e1,e2⟩:=List.append_inj h hl;rw[z0E h1,z0E h2]at e2;have n1:=hp _ (List.getElem_mem h1);have n2:=hq _ (List.getElem_mem h2);have b1:dv ps[i]<2 ^ (8*1):=by unfold z35 at n1; simp only[Bool.and_eq_true,decide_eq_true_eq]at n1; omega
   have b2:dv qs[i]<2 ^ (8*1):=by unfold z35 at n2; simp only[Bool.and_eq_true,decide_eq_true_eq]at n2; omega
   have e3:=zMo n1 n2 (zIi b1 b2 e2);rw[List.take_add_one,List.take_add_one,List.getElem?_eq_getElem h1,List.getElem?_eq_getElem h2,e3,zKD i (by omega) (by omega) hp hq e1]
theorem zJP:∀{ls ms:List (List UInt8)},(∀p∈ls,p.length<256)->(∀p∈ms,p.length<256)->labB ls=labB ms->ls=ms
 | [],[],_,_,_=>rfl
 | [],m::ms,_,_,h=>by simp[labB,z0k]at h
 | l::ls,[],_,_,h=>by simp[labB,z0k]at h
 | l::ls,m::ms,hl,hm,h=>by
   unfold labB z0k at h;simp only[List.map_cons,List.map_nil,List.flatten_cons,List.cons_append,List.nil_append,List.cons.injEq]at h;have b1:=hl l (by simp);have b2:=hm m (by simp);have e:=zNO (n:=l.length) (m:=m.length) (k:=0) (by simpa [zIl]using h.1);simp only[Nat.mul_zero,Nat.pow_zero,Nat.div_one,Nat.mod_eq_of_lt b1,Nat.mod_eq_of_lt b2]at e;obtain⟨e1,e2⟩:=List.append_inj h.2 e;rw[e1,zJP (fun p hp=>hl p (by simp[hp])) (fun p hp=>hm p (by simp[hp])) e2]
theorem z8m {s:List UInt8} (h:z11 s=true):∀p∈z1v s,p.length<256:=by
 intro p hp
 have h60:s.length<=60:=by
  unfold z11 at h;simp only[Bool.and_eq_true,decide_eq_true_eq]at h;omega
 unfold z1v at hp
 split at hp
 ·simp at hp
 ·have:=z6F 46 s p hp; omega
theorem zFB {s:List UInt8} (h:z61 s=true):z11 s=true:=by
 unfold z61 at h; simp only[Bool.and_eq_true]at h; exact h.2.1
theorem zR7 {k:Int} {s t:List UInt8} (hs:z3g k s=true) (ht:z3g k t=true) (h:datE k s=datE k t):s=t:=by
 unfold z3g at hs ht
 unfold datE at h
 by_cases k1:k=1
 ·rw[if_pos k1]at hs ht h;rw[if_pos k1]at h;unfold zAR at hs ht;simp only[Bool.and_eq_true,decide_eq_true_eq,List.all_eq_true]at hs ht;rw[hs.2,ht.2]at h;have:=zKD 4 (by omega) (by omega) hs.1 ht.1 h;rw[List.take_of_length_le (by omega),List.take_of_length_le (by omega)]at this;rw[<- z8D 46 s,this,z8D]
 rw[if_neg k1]at hs ht h
 rw[if_neg k1]at h
 by_cases k25:k=2\/k=5
 ·rw[if_pos k25]at hs ht h;rw[if_pos k25]at h;exact zGa (zJP (z8m (zFB hs)) (z8m (zFB ht)) (List.append_cancel_right h))
 rw[if_neg k25]at hs ht h
 rw[if_neg k25]at h
 by_cases k6:k=6
 ·rw[if_pos k6]at hs ht h;rw[if_pos k6]at h;refine zMo hs ht (zIi (c:=4) ?_ ?_ h)
  ·unfold z35 at hs; simp only[Bool.and_eq_true,decide_eq_true_eq]at hs; omega
  ·unfold z35 at ht; simp only[Bool.and_eq_true,decide_eq_true_eq]at ht; omega
 rw[if_neg k6]at hs ht h
 rw[if_neg k6]at h
 by_cases k15:k=15
 ·rw[if_pos k15]at hs ht h;rw[if_pos k15]at h;have cut:∀{x:List UInt8},mxOk x=true->∃a q,x=a++32::q/\Lib.cut x [32]=(a,q,true)/\z35 a 65535=true/\z61 q=true:=by
   intro x hx;have hmx:=zQ1 x;rw[hx]at hmx;have h32:32∈x:=by
    by_cases h0:32∈x
    ·exact h0
    ·unfold mxOk at hx; rw[z3n h0]at hx; simp[mxP]at hx
   obtain⟨a,q,rfl,hp⟩:=zAz h32;rw[z8W hp]at hmx;have hmx':=hmx.symm;simp only[Bool.and_eq_true]at hmx';exact⟨a,q,rfl,z8W hp,hmx'.1,hmx'.2⟩
  obtain⟨a,q,rfl,c1,n1,t1⟩:=cut hs;obtain⟨a',q',rfl,c2,n2,t2⟩:=cut ht;rw[c1,c2]at h;have h:=List.append_cancel_right h;obtain⟨e1,e2⟩:=List.append_inj h (by rw[z7c,z7c]);have b:∀{x:List UInt8},z35 x 65535=true->dv x<2 ^ (8*2):=by
   intro x hx; unfold z35 at hx; simp only[Bool.and_eq_true,decide_eq_true_eq]at hx; omega
  rw[zMo n1 n2 (zIi (b n1) (b n2) e1),zGa (zJP (z8m (zFB t1)) (z8m (zFB t2)) e2)]
 rw[if_neg k15]at hs ht h
 rw[if_neg k15]at h
 exact(List.append_inj h (by rw[z7c,z7c])).2
theorem zPH {a b:Rec} (ha:a.In lim) (hb:b.In lim) (oa:a.ok=true) (ob:b.ok=true) (h:cmpR a b=0):a=b:=by
 unfold cmpR at h
 rw[orL3]at h
 have okd:∀{r:Rec},r.ok=true->z3g r.type r.data=true:=fun h=>by unfold Rec.ok at h; simp only[Bool.and_eq_true]at h; exact h.1
 split at h
 ·rename_i h1;unfold cmpK at h1;rw[orL2]at h1;split at h1
  ·rename_i h0;have en:=zNQ.eq _ _ h0;have et:=z5U.eq _ _ h1;split at h
   ·rename_i h2;have hx:=zEz.eq _ _ h2;have el:=z5U.eq _ _ h;unfold datX at hx;rw[if_pos (okd oa),if_pos (okd ob),zPK ha.data (okd oa),zPK hb.data (okd ob),<- et]at hx;have ed:=zR7 (okd oa) (by rw[et]; exact okd ob) hx;obtain⟨a1,a2,a3,a4⟩:=a;obtain⟨b1,b2,b3,b4⟩:=b;simp_all
   ·rename_i h2; exact absurd h h2
  ·rename_i h0; exact absurd h1 h0
 ·rename_i h1; exact absurd h h1
end Go.Proofs.YtilejnnnkfjmmaaGreatDoor
namespace Go.Own
variable [Glb]
open Go
theorem zRS {σ:Type} {f:List D->Outc} {l:List D} (enc:Nat->σ->List D) (Inv:Nat->σ->Prop) (n:Nat) {t:Nat} {out:σ->List D} (s0:σ) (hl:l=enc 0 s0) (h0:Inv 0 s0)
 (h:∀i s,i<n->Inv i s->∃s',f (enc i s)=some (0,enc (i+1) s')/\Inv (i+1) s') (hn:∀s,Inv n s->f (enc n s)=some (t+1,out s)):∃s,Inv n s/\z0d f l=some (t,out s):=by
 subst hl
 have key:∀m k s,m+k=n->Inv k s->∃s',Inv n s'/\z0d f (enc k s)=some (t,out s'):=by
  intro m
  induction m with
  | zero=>
    intro k s hk hi;have:k=n:=by omega
    subst this;exact⟨s,hi,z1B (hn s hi)⟩
  | succ m ih=>
    intro k s hk hi;obtain⟨s',h1,h2⟩:=h k s (by omega) hi;obtain⟨s'',h3,h4⟩:=ih (k+1) s' (by omega) h2;exact⟨s'',h3,by rw[z1m h1]; exact h4⟩
 exact key n 0 s0 (by omega) h0
end Go.Own
namespace Go.Proofs.YtilejnnnkfjmmaaGreatDoor
open Go Go.Own
theorem z0b {o:Outc} {l:List D} {A:Nat×List D->Outc} {B:Nat×List D->Nat->Outc} {R:Option (Nat×List D)} (h:o=some (0,l)) (hk:A (0,l)=R):(o.bind fun o=>sel2 o.1 (A o) (B o))=R:=by
 rw[h]; exact hk
theorem out_bind1 {o:Outc} {l:List D} {A:Nat×List D->Outc} {B:Nat×List D->Nat->Outc} {R:Outc} (h:o=some (1,l)) (hk:B (1,l) 0=R):(o.bind fun o=>sel2 o.1 (A o) (B o))=R:=by
 rw[h]; exact hk
theorem z8o {o:Outc} {l:List D} {A:Nat×List D->Outc} {B:Nat×List D->Nat->Outc} {R:Option D} (h:o=some (1,l)) (hk:rn (B (1,l) 0)=R):rn (o.bind fun o=>sel2 o.1 (A o) (B o))=R:=by
 rw[h]; exact hk
theorem z8p {A:Outc} {B:Nat->Outc} {R:Option D} (hk:rn A=R):rn (sel2 0 A B)=R:=hk
theorem z1F {e:Nat} {l m:List D} (hl:l.length<=lim) (hm:m.length<=lim) (he:e<=100):appOk e l m=true:=by
 have h2:(lim:Nat)=1048576:=rfl
 have:(l.length+m.length)*e<=(lim+lim)*100:=Nat.mul_le_mul (by omega) he
 unfold appOk
 rw[Bool.and_eq_true,decide_eq_true_eq,decide_eq_true_eq,z0c]
 refine⟨by omega,Nat.le_trans this ?_⟩
 rw[h2]; decide
theorem zG5 {α:Type} {c:α->α->Int} (h:∀x y,c y x=- c x y):∀a b:List α,lexC c b a=- lexC c a b
 | [],[]=>rfl
 | [],_::_=>rfl
 | _::_,[]=>rfl
 | x::xs,y::ys=>by
   unfold lexC;rw[h x y];by_cases h0:c x y=0
   ·rw[if_pos h0,if_pos (by omega)]; exact zG5 h xs ys
   ·rw[if_neg h0,if_neg (by omega)]
theorem zG1 (a b:Int):intC b a=- intC a b:=by
 unfold intC
 repeat' split
 all_goals omega
theorem zI4 (a b:List UInt8):Lib.compareBytes b a=- Lib.compareBytes a b:=by
 rw[z5Q,z5Q]
 exact zG5 (fun x y=>zG1 _ _) _ _
theorem zPF (a b:List UInt8):cmpN b a=- cmpN a b:=zG5 (fun x y=>zI4 _ _) _ _
noncomputable def Rec.k3 (r:Rec):((List UInt8×Int)×List UInt8)×Int:=((r.key,datX r.type r.data),r.ttl)
def cKB (p q:(List UInt8×Int)×List UInt8):Int:=if cmpP p.1 q.1=0 then Lib.compareBytes p.2 q.2 else cmpP p.1 q.1
def cR (p q:((List UInt8×Int)×List UInt8)×Int):Int:=if cKB p.1 q.1=0 then intC p.2 q.2 else cKB p.1 q.1
theorem zSz:Cmp cR:=(show Cmp cKB from z7d.prod zEz).prod z5U
theorem zPG (a b:Rec):cmpR a b=cR a.k3 b.k3:=by
 unfold cmpR cR cKB Rec.k3
 rw[orL3,z7D]
 by_cases h:cmpP a.key b.key=0
 ·simp only[if_pos h]
 ·simp only[if_neg h]
theorem zFO (a b:Rec):cmpR b a=- cmpR a b:=by
 have hP:cmpP b.key a.key=- cmpP a.key b.key:=by
  unfold cmpP;rw[zPF a.key.1 b.key.1,zG1 a.key.2 b.key.2];by_cases h:cmpN a.key.1 b.key.1=0
  ·rw[if_pos h,if_pos (by omega)]
  ·rw[if_neg h,if_neg (by omega)]
 unfold cmpR
 rw[orL3,orL3,z7D,z7D,hP,zI4 (datX a.type a.data),zG1 a.ttl]
 by_cases h:cmpP a.key b.key=0
 ·rw[if_pos h,if_pos (by omega)];by_cases h2:Lib.compareBytes (datX a.type a.data) (datX b.type b.data)=0
  ·rw[if_pos h2,if_pos (by omega)]
  ·rw[if_neg h2,if_neg (by omega)]
 ·rw[if_neg h,if_neg (by omega)]
theorem zMH {a b c:Rec} (h1:cmpR a b<=0) (h2:cmpR b c<=0) (h3:cmpR a b≠0\/cmpR b c≠0):cmpR a c<0:=by
 rw[zPG]at h1 h2 h3 |-
 rw[zPG b c]at h3
 exact zSz.lt h1 h2 h3
theorem Rises.pw {xs:List Rec} (h:Rises xs):xs.Pairwise (fun a b=>cmpR a b<0):=by
 rw[List.pairwise_iff_getElem]
 intro i j hi hj hij
 have key:∀m (hm:i+(m+1)<xs.length),cmpR xs[i] xs[i+(m+1)]<0:=by
  intro m
  induction m with
  | zero=>intro hm; exact h.up i hm
  | succ m ih=>
    intro hm;have h1:=ih (by omega);have h2:=h.up (i+(m+1)) (by omega);exact zMH (Int.le_of_lt h1) (Int.le_of_lt h2) (.inl (by omega))
 obtain⟨m,rfl⟩:∃m,j=i+(m+1):=⟨j-i-1,by omega⟩
 exact key m hj
theorem Rises.of {xs:List Rec} (h1:∀r∈xs,r.ok=true) (h2:xs.Pairwise (fun a b=>cmpR a b<0)):Rises xs:=
 ⟨h1,fun i hi=>(List.pairwise_iff_getElem.1 h2) i (i+1) (by omega) hi (by omega)⟩
theorem Rises.rs {xs:List Rec} (h:Rises xs):z7p xs=true:=by
 unfold z7p
 rw[z1S]
 intro i hi
 unfold upAt
 rw[z0E hi,h.ok _ (List.getElem_mem hi),Bool.true_and]
 by_cases h0:i=0
 ·subst h0; rfl
 ·have hi1:i-1<xs.length:=by omega
  have:=h.up (i-1) (by omega);rw[z0E hi1];have e:xs[i-1+1]'(by omega)=xs[i]:=by congr 1; omega
  rw[e]at this;simp[this]
def insR (xs:List Rec) (k:Nat) (r:Rec):List Rec:=xs.take k++r::xs.drop k
theorem zNk {xs:List Rec} {k:Nat} {r x:Rec} (h:x∈insR xs k r):x=r\/x∈xs:=by
 simp only[insR,List.mem_append,List.mem_cons]at h
 rcases h with h | rfl | h
 ·exact .inr (List.mem_of_mem_take h)
 ·exact .inl rfl
 ·exact .inr (List.mem_of_mem_drop h)
theorem zOT {xs:List Rec} {k:Nat} {r:Rec} (hR:Rises xs) (ok:r.ok=true) (hlo:∀i (hi:i<xs.length),i<k->cmpR xs[i] r<0) (hhi:∀i (hi:i<xs.length),k<=i->0<cmpR xs[i] r):Rises (insR xs k r):=by
 refine Rises.of (fun x hx=>?_) ?_
 ·rcases zNk hx with rfl | hx
  ·exact ok
  ·exact hR.ok x hx
 ·have hp:=hR.pw;unfold insR;have h2:=hp;rw[<- List.take_append_drop k xs,List.pairwise_append]at h2;rw[List.pairwise_append,List.pairwise_cons];refine⟨h2.1,⟨fun b hb=>?_,h2.2.1⟩,fun a ha b hb=>?_⟩
  ·obtain⟨i,hi,rfl⟩:=List.getElem_of_mem hb;rw[List.length_drop]at hi;rw[List.getElem_drop,zFO];have:=hhi (k+i) (by omega) (by omega);rw[zFO]at this;rw[zFO];omega
  ·rcases List.mem_cons.1 hb with rfl | hb
   ·obtain⟨i,hi,rfl⟩:=List.getElem_of_mem ha;rw[List.length_take]at hi;rw[List.getElem_take];exact hlo i (by omega) (by omega)
   ·exact h2.2.2 a ha b hb
theorem zTc {xs:List Rec} {r:Rec} (hR:Rises xs) (hl:xs.length<=1000000) (hx:∀x∈xs,x.In lim) (hr:r.In lim) (ok:r.ok=true) :
 ∃ys:List Rec,z6O.F [.lst (xs.map Rec.d),r.d]=some (.lst (ys.map Rec.d))/\z4G.F [.lst (xs.map Rec.d),r.d]=some (.lst (ys.map Rec.d))/\Rises ys/\ys.length<=xs.length+1/\∀y∈ys,y=r\/y∈xs:=by
 have hlim:lim=1048576:=rfl
 obtain⟨k,k1,k2,k3,b,hb,hbs⟩:=zRw (f:=Rec.d) (c:=fun d=>z10.F [d,r.d]) (xs:=xs) (cv:=fun x=>cmpR x r) (by omega) (fun x h=>z8t (hx x h) hr) (fun i j hi hj hij h=>by
  by_cases he:i=j
  ·subst he; exact h
  ·have h1:=(List.pairwise_iff_getElem.1 hR.pw) i j hi hj (by omega);exact zMH (Int.le_of_lt h1) (Int.le_of_lt h) (.inl (by omega)))
 have hsp:∀i (hi:i<xs.length),z19.F [xs[i].d,r.d]=some (.int (cmpR xs[i] r)):=by
  intro i hi;obtain⟨n,h1,h2⟩:=zFU (hx _ (List.getElem_mem hi)) hr;rw[h1,h2 (hR.ok _ (List.getElem_mem hi)) ok]
 have hbs':z0A.F [.lst (xs.map Rec.d),r.d,.unit]=some (.pair (.int k) (.pair (.bool b) .unit)):=by
  rw[z1L]; exact hbs
 have hlen:(D.lst (xs.map Rec.d)).l.length=xs.length:=by simp
 have hloop:∃e:Nat,e=k/\z0d (fun l2=>
  (if (decide ((gd l2 0).i<(xs.length:Int)))then
    if (inb (gd l2 0).i xs.length)then
    (z19.F [(gd (D.lst (xs.map Rec.d)).l (gd l2 0).i.toNat),r.d]).bind fun r3=>
    ou 0 [(.bool (decide (r3.i<0)))]
    else none
  else
   ou 0 [(.bool false)]).bind fun o3=>
  sel2 o3.1 (if (gd o3.2 0).b then
   ou 0 [(.int (IntKind.wrap .i64 ((gd l2 0).i+1)))]
  else
   ou 1 [(gd l2 0)]) fun _=>none) [(.int 0)]=some (0,[.int (k:Int)]):=by
  refine⟨k,rfl,?_⟩;refine z2Q (fun i (_:Unit)=>[.int (i:Int)]) k (fun _=>()) rfl ?_ ?_
  ·intro i hi;have hi':i<xs.length:=by omega
   have e0:(gd [D.int (i:Int)] 0).i=(i:Int):=rfl;have hg:gd (D.lst (xs.map Rec.d)).l i=xs[i].d:=z5A hi';simp only[e0,Int.toNat_natCast,hg];refine z0b (l:=[.bool true]) (z01 (decide_eq_true (by omega)) (z01 (z0B hi') (z04 (hsp i hi') ?_))) (z01 rfl ?_)
   ·show some (0,[D.bool (decide (cmpR xs[i] r<0))])=_;rw[decide_eq_true (k2 i hi' hi)]
   ·show some (0,[D.int (IntKind.wrap .i64 ((i:Int)+1))])=_;rw[z0P hi' (by rw[z0c]; omega)]
  ·have e0:(gd [D.int (k:Int)] 0).i=(k:Int):=rfl;simp only[e0,Int.toNat_natCast];refine z0b (l:=[.bool false]) ?_ (z00 (by simp) rfl);by_cases hk:k<xs.length
   ·have hg:gd (D.lst (xs.map Rec.d)).l k=xs[k].d:=z5A hk;rw[hg];refine z01 (decide_eq_true (by omega)) (z01 (z0B hk) (z04 (hsp k hk) ?_));show some (0,[D.bool (decide (cmpR xs[k] r<0))])=_;rw[decide_eq_false (by have:=k3 k hk (Nat.le_refl _); omega)]
   ·exact z00 (fun h=>hk (by have:=of_decide_eq_true h; omega)) rfl
 obtain⟨_,_,hloop⟩:=hloop
 rw[zOo,zLX,hlen]
 cases b with
 | true=>
   obtain⟨hk,h0⟩:=hb.1 rfl;have he:xs[k]=r:=zPH (hx _ (List.getElem_mem hk)) hr (hR.ok _ (List.getElem_mem hk)) ok h0;refine⟨xs,z03 hbs' (z0G rfl rfl),z06 hloop (z06 (l:=[.bool true]) ?_ (z0G rfl rfl)),hR,by omega,fun y hy=>.inr hy⟩;have hg:gd (D.lst (xs.map Rec.d)).l k=xs[k].d:=z5A hk;simp only[z16,D.i_int,Int.toNat_natCast,hg];refine z01 (decide_eq_true (by omega)) (z01 (z0B hk) ?_);rw[he,zJu.2 rfl]
 | false=>
   have hpos:∀i (hi:i<xs.length),k<=i->0<cmpR xs[i] r:=by
    intro i hi hki;have h1:=k3 i hi hki;rcases Int.lt_or_eq_of_le h1 with h2 | h2
    ·exact h2
    ·exfalso;by_cases hik:i=k
     ·subst hik;exact absurd (hb.2 ⟨hi,h2.symm⟩) (by simp)
     ·have h3:=(List.pairwise_iff_getElem.1 hR.pw) k i (by omega) hi (by omega);have h4:=zMH (Int.le_of_lt h3) (by omega:cmpR xs[i] r<=0) (.inl (by omega));have:=k3 k (by omega) (Nat.le_refl _);omega
   have hsl:((xs.map Rec.d).take k).length=k:=by rw[List.length_take,List.length_map]; omega
   refine⟨insR xs k r,z03 hbs' (z05 (by simp[D.fld]) (z03 (r:=.lst ((insR xs k r).map Rec.d)) ?_ rfl)),z06 hloop (z06 (l:=[.bool false]) ?_ (z05 (by simp) ?_)),zOT hR ok k2 hpos,by simp[insR]; omega,fun y hy=>zNk hy⟩
   ·show insF 48 [.lst (xs.map Rec.d),.int (k:Int),(D.lst [r.d])]=_;unfold insF;dsimp only;rw[if_pos]
    ·simp[insR,List.map_take,List.map_drop]
    ·refine⟨⟨by simp,by simpa using k1⟩,by simp,z1F (by simp; omega) (by simp; omega) (by decide)⟩
   ·simp only[z16,D.i_int,Int.toNat_natCast];by_cases hk:k<xs.length
    ·have hg:gd (D.lst (xs.map Rec.d)).l k=xs[k].d:=z5A hk;rw[hg];refine z01 (decide_eq_true (by omega)) (z01 (z0B hk) ?_);have:D.beq xs[k].d r.d=false:=by
      rw[<- Bool.not_eq_true,zJu];intro he;have:=hpos k hk (Nat.le_refl _);rw[he,zKQ]at this; omega
     rw[this]
    ·exact z00 (fun h=>hk (by have:=of_decide_eq_true h; omega)) rfl
   ·simp only[z16,D.i_int,Int.toNat_natCast,D.l_lst,Nat.sub_zero,List.drop_zero,List.nil_append];have hs1:slOk 0 (k:Int) (xs.length:Int)=true:=by simp[slOk]; omega
    have hs2:slOk (k:Int) (xs.length:Int) (xs.length:Int)=true:=by simp[slOk]; omega
    have hd:((xs.map Rec.d).drop k).length=xs.length-k:=by rw[List.length_drop,List.length_map]
    refine z0G hs1 (z0G (z1F (by simp) (by rw[hsl]; omega) (by decide)) (z0G (z1F (by rw[hsl]; omega) (by simp; omega) (by decide)) (z0G hs2 (z0G (z1F (by rw[List.length_append,hsl]; simp; omega) (by rw[List.length_take,hd]; omega) (by decide)) ?_))));rw[List.take_of_length_le (l:=(xs.map Rec.d).drop k) (by rw[hd]; omega)];show some (D.lst _)=_;simp[insR,List.map_take,List.map_drop]
end Go.Proofs.YtilejnnnkfjmmaaGreatDoor
