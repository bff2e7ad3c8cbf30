/- What the functions compute, in plain words. -/
import Derived.Test.YtilejnnnkfjmmaaGreatDoorP2
set_option linter.unusedSectionVars false
set_option linter.unusedVariables false
set_option linter.unusedSimpArgs false
namespace Go.Proofs.YtilejnnnkfjmmaaGreatDoor
open Go Go.Own
def brk3 (r x:Rec):Bool:=x.ttl != r.ttl||(x.data==r.data && !(D.beq x.d r.d))
def brk6 (apex:List UInt8) (r c:Rec):Bool:=(c.type==2&&(!(c.name==apex)&&bel r.name c.name))&&(r.type != 1 && !(r.type==2&&r.name==c.name))
def brk (apex:List UInt8) (xs:List Rec) (r:Rec) (k:Nat):Bool:=
 if k=1 then !bel r.name apex
 else if k=2 then r.type==6 && !(r.name==apex)
 else if k=3 then(xs.filter (isAt r.name r.type)).any (brk3 r)
 else if k=4 then r.type==5&&decide (1<(xs.filter (isAt r.name 0)).length)
 else if k=5 then r.type==5&&r.name==apex
 else xs.any (brk6 apex r)
theorem zPT (x r:Rec):z43.F [x.d,r.d]=some (.bool (brk3 r x)):=by
 rw[zGg]
 refine z06 (l:=[.bool (brk3 r x)]) ?_ rfl
 have f2:(x.d.fld 2).i=x.ttl:=rfl
 have g2:(r.d.fld 2).i=r.ttl:=rfl
 have f3:(x.d.fld 3).s=x.data:=rfl
 have g3:(r.d.fld 3).s=r.data:=rfl
 rw[f2,g2,f3,g3]
 unfold brk3
 by_cases h1:x.ttl=r.ttl
 ·refine z00 (by simp[h1]) ?_;have e1:(x.ttl != r.ttl)=false:=by simp[h1]
  rw[e1,Bool.false_or];by_cases h2:x.data=r.data
  ·exact z01 (by simpa using h2) (by simp[h2])
  ·exact z00 (by simpa using h2) (by simp[h2])
 ·exact z01 (by simpa using h1) (by simp[h1])
theorem zMU {xs:List Rec} (r:Rec) (hl:xs.length<=smax):z0N.F [.lst (xs.map Rec.d),.pair r.d .unit]=some (.bool (xs.any (brk3 r))):=by
 rw[z2U]
 obtain⟨n,h1,h2⟩:=zFy (f:=Rec.d) (c:=fun d=>z43.F [d,r.d]) (xs:=xs) (p:=brk3 r) hl (fun x _=>zPT x r)
 have h3:z0T.F [.lst (xs.map Rec.d),.pair r.d .unit]=some (.int n):=by
  rw[z2u]; exact h1
 refine z03 h3 ?_
 rw[<- h2]; rfl
theorem zPU {apex:List UInt8} {c r:Rec} (hc:c.In lim) (hr:r.In lim):z44.F [c.d,.str apex,r.d]=some (.bool (brk6 apex r c)):=by
 rw[zGh]
 have f0:(c.d.fld 0)=.str c.name:=rfl
 have f1:(c.d.fld 1).i=c.type:=rfl
 have g0:(r.d.fld 0)=.str r.name:=rfl
 have g1:(r.d.fld 1).i=r.type:=rfl
 rw[f0,f1,g0,g1]
 simp only[D.s_str]
 have hb:=zKf hr.name hc.name
 refine z06 (l:=[.bool (c.type==2&&(!(c.name==apex)&&bel r.name c.name))]) ?_ (z06 (l:=[.bool (brk6 apex r c)]) ?_ rfl)
 ·by_cases h1:c.type=2
  ·refine z01 (by simpa using h1) ?_;by_cases h2:c.name=apex
   ·exact z00 (by simpa using h2) (by simp[h2])
   ·exact z01 (by simpa using h2) (z04 hb (by simp[h1,h2]))
  ·exact z00 (by simpa using h1) (by simp[h1])
 ·unfold brk6
  cases (c.type==2&&(!(c.name==apex)&&bel r.name c.name))with
  | false=>exact z00 (by simp) rfl
  | true=>
    refine z01 rfl ?_;rw[Bool.true_and];by_cases h1:r.type=1
    ·exact z00 (by simp[h1]) (by simp[h1])
    ·refine z01 (by simpa using h1) ?_;by_cases h2:r.type=2
     ·exact z01 (by simpa using h2) (by simp[h2])
     ·exact z00 (by simpa using h2) (by simp[h1,h2])
theorem zMV {apex:List UInt8} {xs:List Rec} {r:Rec} (hl:xs.length<=smax) (hx:∀x∈xs,x.In lim) (hr:r.In lim):z0O.F [.lst (xs.map Rec.d),.pair (.str apex) (.pair r.d .unit)]=some (.bool (xs.any (brk6 apex r))):=by
 rw[z2V]
 obtain⟨n,h1,h2⟩:=zFy (f:=Rec.d) (c:=fun d=>z44.F [d,.str apex,r.d]) (xs:=xs) (p:=brk6 apex r) hl (fun x hx'=>zPU (hx x hx') hr)
 have h3:z0U.F [.lst (xs.map Rec.d),.pair (.str apex) (.pair r.d .unit)]=some (.int n):=by
  rw[z2v]; exact h1
 refine z03 h3 ?_
 rw[<- h2]; rfl
theorem zR8 {apex:List UInt8} {xs:List Rec} {r:Rec} {k:Nat} (hk:1<=k/\k<=6) (ha:apex.length<=lim) (hl:xs.length<=lim) (hx:∀x∈xs,x.In lim) (hr:r.In lim):z5s.F [.str apex,.lst (xs.map Rec.d),r.d,.int k]=some (.bool (brk apex xs r k)):=by
 have hsm:=Nat.le_trans hl z1I
 rw[zJh]
 have g0:(r.d.fld 0)=.str r.name:=rfl
 have g1:(r.d.fld 1)=.int r.type:=rfl
 rw[g0,g1]
 simp only[D.i_int,D.s_str]
 have kb:∀n:Nat,k≠n->¬((k:Int)==(n:Int))=true:=fun n h=>by simp; omega
 unfold brk
 by_cases k1:k=1
 ·subst k1;exact z0G rfl (z03 (zKf hr.name ha) rfl)
 rw[if_neg k1]
 refine z05 (kb 1 k1) ?_
 by_cases k2:k=2
 ·subst k2;refine z0G rfl (z06 (l:=[.bool (r.type==6 && !(r.name==apex))]) ?_ rfl);by_cases h1:r.type=6
  ·exact z01 (by simpa using h1) (by simp[h1])
  ·exact z00 (by simpa using h1) (by simp[h1])
 rw[if_neg k2]
 refine z05 (kb 2 k2) ?_
 by_cases k3:k=3
 ·subst k3;have hfl:=List.length_filter_le (isAt r.name r.type) xs;exact z0G rfl (z03 (f_at hl) (z03 (zMU r (by omega)) rfl))
 rw[if_neg k3]
 refine z05 (kb 3 k3) ?_
 by_cases k4:k=4
 ·subst k4;refine z0G rfl (z06 (l:=[.bool (r.type==5&&decide (1<(xs.filter (isAt r.name 0)).length))]) ?_ rfl);by_cases h1:r.type=5
  ·refine z01 (by simpa using h1) (z04 (f_at hl) ?_);have e:(D.lst ((xs.filter (isAt r.name 0)).map Rec.d)).l.length=(xs.filter (isAt r.name 0)).length:=by simp
   have e2:decide (((xs.filter (isAt r.name 0)).length:Int) > 1)=decide (1<(xs.filter (isAt r.name 0)).length):=by rw[Bool.eq_iff_iff]; simp; omega
   rw[e,e2]; simp[h1]
  ·exact z00 (by simpa using h1) (by simp[h1])
 rw[if_neg k4]
 refine z05 (kb 4 k4) ?_
 by_cases k5:k=5
 ·subst k5;refine z0G rfl (z06 (l:=[.bool (r.type==5&&r.name==apex)]) ?_ rfl);by_cases h1:r.type=5
  ·exact z01 (by simpa using h1) (by simp[h1])
  ·exact z00 (by simpa using h1) (by simp[h1])
 rw[if_neg k5]
 refine z05 (kb 5 k5) ?_
 exact z03 (zMV hsm hx hr) rfl
theorem zMT {apex:List UInt8} {xs:List Rec} {k:Nat} (hk:1<=k/\k<=6) (ha:apex.length<=lim) (hl:xs.length<=lim) (hx:∀x∈xs,x.In lim) :
 z0H.F [.lst (xs.map Rec.d),.pair (.str apex) (.pair (.lst (xs.map Rec.d)) (.pair (.int k) .unit))]=some (.bool (xs.any fun r=>brk apex xs r k)):=by
 rw[z2T]
 obtain⟨n,h1,h2⟩:=zFy (f:=Rec.d) (c:=fun d=>z41.F [d,.str apex,.lst (xs.map Rec.d),.int k]) (xs:=xs) (p:=fun r=>brk apex xs r k) (Nat.le_trans hl z1I) (fun x hx'=>by
  have:=zR8 (apex:=apex) hk ha hl hx (hx x hx');show z41.F [x.d,.str apex,.lst (xs.map Rec.d),.int k]=_;rw[zGf];exact z03 this rfl)
 have h3:z0S.F [.lst (xs.map Rec.d),.pair (.str apex) (.pair (.lst (xs.map Rec.d)) (.pair (.int k) .unit))]=some (.int n):=by
  rw[z2t]; exact h1
 refine z03 h3 ?_
 rw[<- h2]; rfl
def z7M (s:List UInt8):Bool:=z11 s && !(s.contains 42)
theorem zRA {s:List UInt8} (h:s.length<=lim):z5t.F [.str s]=some (.bool (z7M s)):=by
 rw[zJi]
 have hn:=zCT s
 have hc:=zI9 h
 refine z06 (l:=[.bool (z7M s)]) ?_ rfl
 unfold z7M
 cases h1:z11 s with
 | false=>rw[h1]at hn; exact z04 hn (z00 (by simp) rfl)
 | true=>rw[h1]at hn; exact z04 hn (z01 rfl (z04 hc (by simp)))
theorem zNc {s:List UInt8} (h:s.length<=lim):z4M.F [.str s]=some (.bool (z7M s)):=by
 have hlim:lim=1048576:=rfl
 rw[zJq]
 obtain⟨ls,hl,hll,hpt⟩:=z5Y s h
 have hsm:ls.length<=smax:=by rw[z0c]; omega
 have f0:((D.pair (.lst (ls.map D.str)) (.pair (.bool (z11 s)) .unit)).fld 0).l=ls.map D.str:=rfl
 have f1:(D.pair (.lst (ls.map D.str)) (.pair (.bool (z11 s)) .unit)).fld 1=.bool (z11 s):=rfl
 refine z03 hl ?_
 rw[f0,f1,List.length_map]
 refine z0L (z2Q (fun i (b:Bool)=>[.bool b,.int i]) ls.length (fun i=>z11 s&&(ls.take i).all (fun x=>!(x==[42]))) (t:=0) (o:=[.bool (z11 s&&ls.all (fun x=>!(x==[42])))]) (by simp) ?_ ?_) ?_
 ·intro i hi;have hg:=z7f hi;refine z01 (by simpa using hi) (z0w (r:=(0,[.bool (z11 s&&(ls.take (i+1)).all (fun x=>!(x==[42])))])) (z01 (by simpa using z0B hi) ?_) (sel0 ?_))
  ·simp only[z16,z6K,D.i_int,Int.toNat_natCast,D.b_bool,hg];rw[List.take_succ_eq_append_getElem hi,List.all_append,<- Bool.and_assoc]
   cases (z11 s&&(ls.take i).all (fun x=>!(x==[42])))with
   | false=>exact z00 (by simp) (by simp)
   | true=>exact z01 rfl (by simp)
  ·simp[z0P hi hsm]
 ·simp
 ·have:(z11 s&&ls.all (fun x=>!(x==[42])))=z7M s:=by
   unfold z7M
   cases hn:z11 s with
   | false=>rfl
   | true=>
     have hls:=hpt hn;subst hls;rw[Bool.true_and,Bool.true_and];by_cases h0:s=[]
     ·subst h0; rfl
     ·rw[zLF hn h0,List.not_any_eq_all_not]
  rw[this]; rfl
noncomputable def zHd (apex:List UInt8) (xs:List Rec):Bool:=z7M apex&&(decide (xs.length<=40)&&z7p xs)
theorem zPa {apex:List UInt8} {xs:List Rec} (ha:apex.length<=lim) (hl:xs.length<=lim) (hx:∀x∈xs,x.In lim):z5G.F [.str apex,.lst (xs.map Rec.d)]=some (.bool (zHd apex xs)):=by
 rw[zHu]
 have h1:=zRA ha
 have h2:=zMQ hl hx
 have hlen:(D.lst (xs.map Rec.d)).l.length=xs.length:=by simp
 rw[hlen]
 refine z06 (l:=[.bool (zHd apex xs)]) ?_ rfl
 unfold zHd
 cases k1:z7M apex with
 | false=>rw[k1]at h1; exact z04 h1 (z00 (by simp) rfl)
 | true=>
   rw[k1]at h1;refine z04 h1 (z01 rfl ?_);by_cases h40:xs.length<=40
   ·exact z01 (decide_eq_true (show(xs.length:Int)<=40 by omega)) (z04 h2 (by simp[h40]))
   ·exact z00 (fun h=>h40 (by have h':(xs.length:Int)<=40:=of_decide_eq_true h; omega)) (by simp[h40])
def zJO (apex:List UInt8) (xs:List Rec) (k:Nat):Bool:=!(xs.any fun r=>brk apex xs r k)&&(!decide (k=2)||decide ((xs.filter (isAt apex 6)).length=1))
theorem zNX {apex:List UInt8} {xs:List Rec} (ha:apex.length<=lim) (hl:xs.length<=lim) (hx:∀x∈xs,x.In lim) :
 ∃n:Int,z4J.F [.str apex,.lst (xs.map Rec.d)]=some (.int n)/\(n=0↔zHd apex xs=true/\∀k,1<=k->k<=6->zJO apex xs k=true):=by
 rw[zJg]
 have hw:=zPa ha hl hx
 cases k1:zHd apex xs with
 | false=>
   rw[k1]at hw;exact⟨9,z03 hw (z0G rfl rfl),by simp⟩
 | true=>
   rw[k1]at hw
   let F:List D->Outc:=fun l3=>
       if (decide ((gd l3 0).i<=6))then
        ((z0H.F [(.lst (xs.map Rec.d)),(.pair (.str apex) (.pair (.lst (xs.map Rec.d)) (.pair (gd l3 0) .unit)))]).bind fun r4=>
          if r4.b then
           ou 0 [(.bool true)]
          else
           if ((gd l3 0).i==2)then
            (z42.F [(.lst (xs.map Rec.d)),(.str apex),(.int 6)]).bind fun r5=>
            ou 0 [(.bool ((r5.l.length:Int) != 1))]
           else
            ou 0 [(.bool false)]).bind fun o4=>
        sel2 o4.1 (if (gd o4.2 0).b then
         ou 1 [(gd l3 0)]
         else
          ou 0 [(.int (IntKind.wrap .i64 ((gd l3 0).i+1)))]) fun _=>none
       else
        ou 2 []
   have hst:∀i,i<6->∀R,(if zJO apex xs (i+1)then ou 0 [.int ((i+1+1:Nat):Int)]else ou 1 [.int ((i+1:Nat):Int)]:Outc)=R->F [.int ((i+1:Nat):Int)]=R:=by
    intro i hi R hR;have hc:=zMT (apex:=apex) (xs:=xs) (k:=i+1) ⟨by omega,by omega⟩ ha hl hx;have w:IntKind.wrap .i64 (((i+1:Nat):Int)+1)=((i+1+1:Nat):Int):=by rw[z0f] <;> omega
    refine z01 (decide_eq_true (by simp; omega)) (z0w (r:=(0,[.bool !(zJO apex xs (i+1))])) (z04 hc ?_) (sel0 ?_))
    ·unfold zJO
     cases (xs.any fun r=>brk apex xs r (i+1))with
     | true=>exact z01 rfl rfl
     | false=>
       refine z00 (by simp) ?_;by_cases h2:i+1=2
       ·refine z01 (by simp; omega) (z04 (f_at hl) ?_);have e:(D.lst ((xs.filter (isAt apex 6)).map Rec.d)).l.length=(xs.filter (isAt apex 6)).length:=by simp
        have e2:(((xs.filter (isAt apex 6)).length:Int) != 1) = !(decide ((xs.filter (isAt apex 6)).length=1)):=by rw[Bool.eq_iff_iff]; simp; omega
        rw[e,e2]; simp[h2]
       ·exact z00 (by simp; omega) (by simp[h2])
    ·rw[<- hR];have g0:gd [D.int ((i+1:Nat):Int)] 0=.int ((i+1:Nat):Int):=rfl;rw[g0,D.i_int,w]
     cases zJO apex xs (i+1) <;> simp
   have hend:F [.int 7]=some (2,[]):=z00 (by decide) rfl;rcases z65 (f:=F) (l:=[.int 1]) (fun i=>[.int ((i+1:Nat):Int)]) 6 (fun i=>zJO apex xs (i+1)) (t1:=0) (t2:=1) (o1:=fun i=>[.int ((i+1:Nat):Int)]) (o2:=[]) rfl (by
    intro i hi h; exact hst i hi _ (by rw[h]; rfl)) (by
    intro i hi h; exact hst i hi _ (by rw[h]; rfl)) hend with ⟨hall,hloop⟩ | ⟨k,hk,hpk,hall,hloop⟩
   ·refine⟨0,z03 hw (z05 (by simp) (z0L hloop rfl)),by
     simp only[true_and,true_iff];intro k h1 h6;have:=hall (k-1) (by omega)
     rwa [show k-1+1=k by omega]at this⟩
   ·refine⟨((k+1:Nat):Int),z03 hw (z05 (by simp) (z0L hloop rfl)),?_⟩;constructor
    ·intro h; omega
    ·rintro⟨_,h⟩;rw[h (k+1) (by omega) (by omega)]at hpk
     cases hpk
end Go.Proofs.YtilejnnnkfjmmaaGreatDoor
namespace Go.Proofs.YtilejnnnkfjmmaaGreatDoor
open Go Go.Own
def soaW (apex:List UInt8) (r:Rec):Int:=if r.type=6 then(if r.name=apex then 1 else 2)else 0
def soaG (apex:List UInt8) (_:Nat) (s:Int) (r:Rec):Sum Int (Nat×List D):=if bel r.name apex=true then .inl (s+soaW apex r)else .inr (0,[.int 1])
def soaS (apex:List UInt8):List Rec->Int
 | []=>0
 | r::xs=>soaW apex r+soaS apex xs
theorem zLr (apex:List UInt8):∀(xs:List Rec) (i:Nat) (s:Int),z8a (soaG apex) i s xs=if xs.all (fun r=>bel r.name apex)=true then .inl (s+soaS apex xs)else .inr (0,[.int 1])
 | [],i,s=>by simp[z8a,soaS]
 | r::xs,i,s=>by
   rw[z8a]
   cases h:bel r.name apex with
   | false=>
     have e:soaG apex i s r=.inr (0,[.int 1]):=by unfold soaG; rw[if_neg (by simp[h])]
     rw[e]; simp[h]
   | true=>
     have e:soaG apex i s r=.inl (s+soaW apex r):=by unfold soaG; rw[if_pos h]
     rw[e];simp only[List.all_cons,h,Bool.true_and];rw[zLr apex xs];simp only[soaS,Int.add_assoc]
theorem zOs (apex:List UInt8) (r:Rec):0<=soaW apex r/\soaW apex r<=2:=by
 unfold soaW; split
 ·split <;> omega
 ·omega
def z7b (xs:List Rec) (i:Nat):Bool:=decide (0<i)&&((xs.getD (i-1) Rec.nul).name==(xs.getD i Rec.nul).name&&((xs.getD (i-1) Rec.nul).type==(xs.getD i Rec.nul).type&&((xs.getD (i-1) Rec.nul).ttl != (xs.getD i Rec.nul).ttl||(xs.getD (i-1) Rec.nul).data==(xs.getD i Rec.nul).data)))
def zA7 (o r:Rec):Bool:=o.name==r.name&&(o.type==5||r.type==5)
def z7G (apex:List UInt8) (xs:List Rec) (r:Rec):Bool:=match zHG apex xs r.name with
 | none=>false
 | some c=>r.type != 1&&(r.type != 2 || !(r.name==c))
structure RuleS (apex:List UInt8) (xs:List Rec):Prop where
 s1:∀r∈xs,bel r.name apex=true
 s2:soaS apex xs=1
 s3:∀i,i<xs.length->z7b xs i=false
 s4:∀i,i<xs.length->∀j,j<i->zA7 (xs.getD j Rec.nul) (xs.getD i Rec.nul)=false
 s5:z6P xs apex 5=false
 s6:∀r∈xs,z7G apex xs r=false
theorem zNd {apex:List UInt8} {xs:List Rec} (ha:apex.length<=lim) (hl:xs.length<=lim) (hx:∀x∈xs,x.In lim) :
 ∃n:Int,z4N.F [.str apex,.lst (xs.map Rec.d)]=some (.int n)/\(n=0↔RuleS apex xs):=by
 have hlim:lim=1048576:=rfl
 have hsm:=Nat.le_trans hl z1I
 rw[zJt]
 have hlen:(D.lst (xs.map Rec.d)).l.length=xs.length:=by simp
 have hll:(D.lst (xs.map Rec.d)).l=xs.map Rec.d:=rfl
 simp only[hll,List.length_map]
 -- the first loop
 have loop1:=z7N (f:=fun l2=>
  if (decide ((gd l2 1).i<(xs.length:Int)))then
   (if (inb (gd l2 1).i xs.length)then
     (z22.F [((gd (xs.map Rec.d) (gd l2 1).i.toNat).fld 0),(.str apex)]).bind fun r4=>
     if (!r4.b)then
      ou 1 [(.int 1)]
     else
      if (((gd (xs.map Rec.d) (gd l2 1).i.toNat).fld 1).i==6)then
       if (!(((gd (xs.map Rec.d) (gd l2 1).i.toNat).fld 0).s==(D.str apex).s))then
        ou 0 [(.int (IntKind.wrap .i64 ((IntKind.wrap .i64 ((gd l2 0).i+1))+1)))]
       else
        ou 0 [(.int (IntKind.wrap .i64 ((gd l2 0).i+1)))]
      else
       ou 0 [(gd l2 0)]
     else none).bind fun o4=>
   sel2 o4.1 (ou 0 [(gd o4.2 0),(.int (IntKind.wrap .i64 ((gd l2 1).i+1)))]) fun n8=>
   sel2 n8 (ou 1 [(gd o4.2 0)]) fun _=>none
  else
   ou 2 [(gd l2 0)]) (l:=[.int 0,.int 0]) (fun i (s:Int)=>[.int s,.int i]) xs (soaG apex) (fun i s=>0<=s/\s<=2*i) 0 1 (fun s=>[.int s]) rfl (by omega) (by
  rintro i s hi ⟨h0,h1⟩;have hb:=zKg (a:=xs[i].name) (b:=apex) (hx _ (List.getElem_mem hi)).name ha;have e0:(gd [D.int s,D.int (i:Int)] 1).i.toNat=i:=by simp
  have e1:(gd [D.int s,D.int (i:Int)] 1).i=i:=rfl;have e2:(gd [D.int s,D.int (i:Int)] 0)=.int s:=rfl;have g0:(xs[i].d.fld 0)=.str xs[i].name:=rfl;have g1:(xs[i].d.fld 1).i=xs[i].type:=rfl;have hwb:=zOs apex xs[i];unfold soaG
  cases hq:bel xs[i].name apex with
  | false=>
    rw[hq]at hb;show _=some (1,_);refine z01 (by simpa using hi) (z0w (r:=(1,[.int 1])) (z01 (by simpa using z0B hi) ?_) rfl);rw[e0,z5A hi,g0];exact z04 hb (z01 rfl rfl)
  | true=>
    rw[hq]at hb;refine⟨z01 (by simpa using hi) (z0w (r:=(0,[.int (s+soaW apex xs[i])])) (z01 (by simpa using z0B hi) ?_) (sel0 ?_)),by omega,by omega⟩
    ·rw[e0,e2,z5A hi,g0,g1];have w1:IntKind.wrap .i64 (s+1)=s+1:=by rw[z0f] <;> omega
     have w2:IntKind.wrap .i64 (s+1+1)=s+2:=by rw[z0f] <;> omega
     simp only[D.i_int,D.s_str,w1,w2];refine z04 hb (z00 (by simp) ?_);unfold soaW;by_cases h6:xs[i].type=6
     ·rw[if_pos h6];refine z01 (by simpa using h6) ?_;by_cases hap:xs[i].name=apex
      ·rw[if_pos hap]; exact z00 (by simp[hap]) rfl
      ·rw[if_neg hap]; exact z01 (by simpa using hap) rfl
     ·rw[if_neg h6];exact z00 (by simpa using h6) (by simp)
    ·rw[e1,z0P hi hsm]; rfl) (by
  intro s _;exact z00 (by simp) rfl)
 rw[zLr apex xs 0 0]at loop1
 cases c1:xs.all (fun r=>bel r.name apex)with
 | false=>
   rw[c1]at loop1;refine⟨1,z0L loop1 rfl,by
    constructor
    ·intro h; cases h
    ·intro h;have:xs.all (fun r=>bel r.name apex)=true:=List.all_eq_true.2 h.s1;rw[c1]at this; cases this⟩
 | true=>
 rw[c1,if_pos rfl,Int.zero_add]at loop1
 have s1:=List.all_eq_true.1 c1
 by_cases c2:soaS apex xs=1
 case neg=>
  exact⟨2,z0L loop1 (z0G (by simpa using c2) rfl),by
   constructor
   ·intro h; cases h
   ·intro h; exact absurd h.s2 c2⟩
 -- the second loop
 have loop2:=z38 (f:=fun l3=>
  if (decide ((gd l3 0).i<(xs.length:Int)))then
   if (inb (gd l3 0).i xs.length)then
   (if (decide ((gd l3 0).i > 0))then
       if (inb (IntKind.wrap .i64 ((gd l3 0).i-1)) xs.length)then
       if (((gd (xs.map Rec.d) (IntKind.wrap .i64 ((gd l3 0).i-1)).toNat).fld 0).s==((gd (xs.map Rec.d) (gd l3 0).i.toNat).fld 0).s)then
        if (((gd (xs.map Rec.d) (IntKind.wrap .i64 ((gd l3 0).i-1)).toNat).fld 1).i==((gd (xs.map Rec.d) (gd l3 0).i.toNat).fld 1).i)then
         if (((gd (xs.map Rec.d) (IntKind.wrap .i64 ((gd l3 0).i-1)).toNat).fld 2).i != ((gd (xs.map Rec.d) (gd l3 0).i.toNat).fld 2).i)then
          ou 0 [(.bool true)]
         else
          ou 0 [(.bool (((gd (xs.map Rec.d) (IntKind.wrap .i64 ((gd l3 0).i-1)).toNat).fld 3).s==((gd (xs.map Rec.d) (gd l3 0).i.toNat).fld 3).s))]
        else
         ou 0 [(.bool false)]
       else
        ou 0 [(.bool false)]
       else none
     else
      ou 0 [(.bool false)]).bind fun o4=>
   sel2 o4.1 (if (gd o4.2 0).b then
    ou 1 [(.int 3)]
    else
     ou 0 [(.int (IntKind.wrap .i64 ((gd l3 0).i+1)))]) fun _=>none
   else none
  else
   ou 2 []) (l:=[.int 0]) (fun i=>[.int i]) xs.length (fun i=>!(z7b xs i)) (t1:=0) (t2:=1) (o1:=[.int 3]) (o2:=[]) rfl (by
  intro i hi;have e0:(gd [D.int (i:Int)] 0).i.toNat=i:=by simp
  have e1:(gd [D.int (i:Int)] 0).i=i:=rfl;rw[e0,e1,z0P hi hsm];refine z01 (by simpa using hi) (z01 (by simpa using z0B hi) (z0w (r:=(0,[.bool (z7b xs i)])) ?_ (sel0 (by cases z7b xs i <;> simp))));unfold z7b;by_cases h0:0<i
  ·have w:IntKind.wrap .i64 ((i:Int)-1)=((i-1:Nat):Int):=by rw[z0c]at hsm; rw[z0f] <;> omega
   have hi1:i-1<xs.length:=by omega
   rw[w,Int.toNat_natCast,z5A hi,z5A hi1,z0E hi,z0E hi1];refine z01 (decide_eq_true (by omega)) (z01 (z0B hi1) ?_);have d0:decide (0<i)=true:=decide_eq_true h0;rw[d0,Bool.true_and];have g0:∀r:Rec,(r.d.fld 0).s=r.name:=fun _=>rfl;have g1:∀r:Rec,(r.d.fld 1).i=r.type:=fun _=>rfl;have g2:∀r:Rec,(r.d.fld 2).i=r.ttl:=fun _=>rfl;have g3:∀r:Rec,(r.d.fld 3).s=r.data:=fun _=>rfl;simp only[g0,g1,g2,g3];by_cases h1:xs[i-1].name=xs[i].name
   ·refine z01 (by simpa using h1) ?_;by_cases h2:xs[i-1].type=xs[i].type
    ·refine z01 (by simpa using h2) ?_;by_cases h3:xs[i-1].ttl=xs[i].ttl
     ·exact z00 (by simp[h3]) (by simp[h1,h2,h3])
     ·exact z01 (by simpa using h3) (by simp[h1,h2,h3])
    ·exact z00 (by simpa using h2) (by simp[h2])
   ·exact z00 (by simpa using h1) (by simp[h1])
  ·refine z00 (fun h=>h0 (by have h':(i:Int) > 0:=of_decide_eq_true h; omega)) ?_;have d0:decide (0<i)=false:=decide_eq_false h0;rw[d0]; rfl) (by exact z00 (by simp) rfl)
 cases c3:allN xs.length (fun i=>!(z7b xs i))with
 | false=>
   rw[c3]at loop2;exact⟨3,z0L loop1 (z05 (by simp[c2]) (z0L loop2 rfl)),by
    constructor
    ·intro h; cases h
    ·intro h;have:allN xs.length (fun i=>!(z7b xs i))=true:=z1S.2 fun i hi=>by rw[h.s3 i hi]; rfl
     rw[c3]at this; cases this⟩
 | true=>
 rw[c3]at loop2
 have s3:∀i,i<xs.length->z7b xs i=false:=fun i hi=>by have:=z1S.1 c3 i hi; simpa using this
 -- the third loop
 have inner:∀i (hi:i<xs.length),z0d (fun l4=>
  if (decide ((gd l4 0).i<((((xs.map Rec.d).take i).drop 0).length:Int)))then
   if (inb (gd l4 0).i (((xs.map Rec.d).take i).drop 0).length)then
   (if (((gd (D.lst (((xs.map Rec.d).take i).drop 0)).l (gd l4 0).i.toNat).fld 0).s==(xs[i].d.fld 0).s)then
       if (((gd (D.lst (((xs.map Rec.d).take i).drop 0)).l (gd l4 0).i.toNat).fld 1).i==5)then
        ou 0 [(.bool true)]
       else
        ou 0 [(.bool ((xs[i].d.fld 1).i==5))]
     else
      ou 0 [(.bool false)]).bind fun o5=>
   sel2 o5.1 (if (gd o5.2 0).b then
    ou 1 [(.int 4)]
    else
     ou 0 [(.int (IntKind.wrap .i64 ((gd l4 0).i+1)))]) fun _=>none
   else none
  else
   ou 2 []) [(.int 0)]=some (cond (allN i (fun j=>!(zA7 (xs.getD j Rec.nul) (xs.getD i Rec.nul)))) (1,[]) (0,[.int 4])):=by
  intro i hi;have hlt:(((xs.map Rec.d).take i).drop 0).length=i:=by simp; omega
  rw[hlt];refine z38 (fun j=>[.int j]) i (fun j=>!(zA7 (xs.getD j Rec.nul) (xs.getD i Rec.nul))) (t1:=0) (t2:=1) (o1:=[.int 4]) (o2:=[]) rfl ?_ (by exact z00 (by simp) rfl);intro j hj;have hjl:j<xs.length:=by omega
  have e0:(gd [D.int (j:Int)] 0).i.toNat=j:=by simp
  have e1:(gd [D.int (j:Int)] 0).i=j:=rfl;have hg:gd (D.lst (((xs.map Rec.d).take i).drop 0)).l j=xs[j].d:=by
   rw[D.l_lst,List.drop_zero,z9E (by simp; omega)]; simp
  rw[e0,e1,hg,z0P hj (by omega),z0E hjl,z0E hi];refine z01 (by simpa using hj) (z01 (by simpa using z0B hj) (z0w (r:=(0,[.bool (zA7 xs[j] xs[i])])) ?_ (sel0 (by cases zA7 xs[j] xs[i] <;> simp))));have g0:∀r:Rec,(r.d.fld 0).s=r.name:=fun _=>rfl;have g1:∀r:Rec,(r.d.fld 1).i=r.type:=fun _=>rfl;simp only[g0,g1];unfold zA7;by_cases h1:xs[j].name=xs[i].name
  ·refine z01 (by simpa using h1) ?_;by_cases h2:xs[j].type=5
   ·exact z01 (by simpa using h2) (by simp[h1,h2])
   ·exact z00 (by simpa using h2) (by simp[h1,h2])
  ·exact z00 (by simpa using h1) (by simp[h1])
 have loop3:=z38 (f:=fun l3=>
  if (decide ((gd l3 0).i<(xs.length:Int)))then
   if (inb (gd l3 0).i xs.length)then
   if (slOk 0 (gd l3 0).i (xs.length:Int))then
   (z0d (fun l4=>
     if (decide ((gd l4 0).i<((((xs.map Rec.d).take (gd l3 0).i.toNat).drop 0).length:Int)))then
      if (inb (gd l4 0).i (((xs.map Rec.d).take (gd l3 0).i.toNat).drop 0).length)then
      (if (((gd (D.lst (((xs.map Rec.d).take (gd l3 0).i.toNat).drop 0)).l (gd l4 0).i.toNat).fld 0).s==((gd (xs.map Rec.d) (gd l3 0).i.toNat).fld 0).s)then
          if (((gd (D.lst (((xs.map Rec.d).take (gd l3 0).i.toNat).drop 0)).l (gd l4 0).i.toNat).fld 1).i==5)then
           ou 0 [(.bool true)]
          else
           ou 0 [(.bool (((gd (xs.map Rec.d) (gd l3 0).i.toNat).fld 1).i==5))]
        else
         ou 0 [(.bool false)]).bind fun o5=>
      sel2 o5.1 (if (gd o5.2 0).b then
       ou 1 [(.int 4)]
       else
        ou 0 [(.int (IntKind.wrap .i64 ((gd l4 0).i+1)))]) fun _=>none
      else none
     else
      ou 2 []) [(.int 0)]).bind fun o4=>
   sel2 o4.1 (ou 1 [(gd o4.2 0)]) fun n14=>
   sel2 n14 (ou 0 [(.int (IntKind.wrap .i64 ((gd l3 0).i+1)))]) fun _=>none
   else none
   else none
  else
   ou 2 []) (l:=[.int 0]) (fun i=>[.int i]) xs.length (fun i=>allN i (fun j=>!(zA7 (xs.getD j Rec.nul) (xs.getD i Rec.nul)))) (t1:=0) (t2:=1) (o1:=[.int 4]) (o2:=[]) rfl (by
  intro i hi;have e0:(gd [D.int (i:Int)] 0).i.toNat=i:=by simp
  have e1:(gd [D.int (i:Int)] 0).i=i:=rfl;rw[e0,e1,z0P hi hsm,z5A hi];refine z01 (by simpa using hi) (z01 (by simpa using z0B hi) (z01 (by simp[slOk]; omega) (z0w (inner i hi) ?_)))
  cases allN i (fun j=>!(zA7 (xs.getD j Rec.nul) (xs.getD i Rec.nul))) <;> rfl) (by exact z00 (by simp) rfl)
 cases c4:allN xs.length (fun i=>allN i (fun j=>!(zA7 (xs.getD j Rec.nul) (xs.getD i Rec.nul))))with
 | false=>
   rw[c4]at loop3;exact⟨4,z0L loop1 (z05 (by simp[c2]) (z0L loop2 (z0L loop3 rfl))),by
    constructor
    ·intro h; cases h
    ·intro h;have:allN xs.length (fun i=>allN i (fun j=>!(zA7 (xs.getD j Rec.nul) (xs.getD i Rec.nul))))=true:=z1S.2 fun i hi=>z1S.2 fun j hj=>by rw[h.s4 i hi j hj]; rfl
     rw[c4]at this; cases this⟩
 | true=>
 rw[c4]at loop3
 have s4:∀i,i<xs.length->∀j,j<i->zA7 (xs.getD j Rec.nul) (xs.getD i Rec.nul)=false:=fun i hi j hj=>by
  have:=z1S.1 (z1S.1 c4 i hi) j hj; simpa using this
 have h5:=zIw (xs:=xs) (n:=apex) (k:=5) hl
 cases c5:z6P xs apex 5 with
 | true=>
   rw[c5]at h5;exact⟨5,z0L loop1 (z05 (by simp[c2]) (z0L loop2 (z0L loop3 (z03 h5 (z0G rfl rfl))))),by
    constructor
    ·intro h; cases h
    ·intro h; have:=h.s5; rw[c5]at this; cases this⟩
 | false=>
 rw[c5]at h5
 -- the last loop
 have loop4:=z38 (f:=fun l4=>
               if (decide ((gd l4 0).i<(xs.length:Int)))then
                if (inb (gd l4 0).i xs.length)then
                (z5g.F [(.str apex),(.lst (xs.map Rec.d)),((gd (xs.map Rec.d) (gd l4 0).i.toNat).fld 0)]).bind fun r5=>
                (if (r5.fld 1).b then
                    if (((gd (xs.map Rec.d) (gd l4 0).i.toNat).fld 1).i != 1)then
                     if (((gd (xs.map Rec.d) (gd l4 0).i.toNat).fld 1).i != 2)then
                      ou 0 [(.bool true)]
                     else
                      ou 0 [(.bool (!(((gd (xs.map Rec.d) (gd l4 0).i.toNat).fld 0).s==(r5.fld 0).s)))]
                    else
                     ou 0 [(.bool false)]
                  else
                   ou 0 [(.bool false)]).bind fun o6=>
                sel2 o6.1 (if (gd o6.2 0).b then
                 ou 1 [(.int 6)]
                 else
                  ou 0 [(.int (IntKind.wrap .i64 ((gd l4 0).i+1)))]) fun _=>none
                else none
               else
                ou 2 []) (l:=[.int 0]) (fun i=>[.int i]) xs.length (fun i=>!(z7G apex xs (xs.getD i Rec.nul))) (t1:=0) (t2:=1) (o1:=[.int 6]) (o2:=[]) rfl (by
  intro i hi;have e0:(gd [D.int (i:Int)] 0).i.toNat=i:=by simp
  have e1:(gd [D.int (i:Int)] 0).i=i:=rfl;have g0:(xs[i].d.fld 0)=.str xs[i].name:=rfl;have g1:(xs[i].d.fld 1).i=xs[i].type:=rfl;have hc:=zSY (apex:=apex) (xs:=xs) (s:=xs[i].name) ha hl (hx _ (List.getElem_mem hi)).name;rw[e0,e1,z0P hi hsm,z5A hi,z0E hi,g0,g1];refine z01 (by simpa using hi) (z01 (by simpa using z0B hi) (z04 hc (z0w (r:=(0,[.bool (z7G apex xs xs[i])])) ?_ (sel0 (by cases z7G apex xs xs[i] <;> simp)))));unfold z7G
  cases zHG apex xs xs[i].name with
  | none=>exact z00 (by simp[zAi,D.fld]) rfl
  | some c=>
    refine z01 rfl ?_;by_cases h1:xs[i].type=1
    ·exact z00 (by simp[h1]) (by simp[h1])
    ·refine z01 (by simpa using h1) ?_;by_cases h2:xs[i].type=2
     ·exact z00 (by simp[h2]) (by simp[h2,zAi,D.fld])
     ·exact z01 (by simpa using h2) (by simp[h1,h2])) (by exact z00 (by simp) rfl)
 have hall:allN xs.length (fun i=>!(z7G apex xs (xs.getD i Rec.nul)))=xs.all (fun r=>!(z7G apex xs r)):=z4v xs (fun r=>!(z7G apex xs r)) Rec.nul
 rw[hall]at loop4
 cases c6:xs.all (fun r=>!(z7G apex xs r))with
 | false=>
   rw[c6]at loop4;exact⟨6,z0L loop1 (z05 (by simp[c2]) (z0L loop2 (z0L loop3 (z03 h5 (z05 (by simp) (z0L loop4 rfl)))))),by
    constructor
    ·intro h; cases h
    ·intro h;have:xs.all (fun r=>!(z7G apex xs r))=true:=List.all_eq_true.2 fun r hr=>by rw[h.s6 r hr]; rfl
     rw[c6]at this; cases this⟩
 | true=>
   rw[c6]at loop4;refine⟨0,z0L loop1 (z05 (by simp[c2]) (z0L loop2 (z0L loop3 (z03 h5 (z05 (by simp) (z0L loop4 rfl)))))),?_⟩;simp only[true_iff];exact⟨s1,c2,s3,s4,c5,fun r hr=>by have:=List.all_eq_true.1 c6 r hr; simpa using this⟩
end Go.Proofs.YtilejnnnkfjmmaaGreatDoor
namespace Go.Own
open Go
theorem Cmp.prod {α β:Type} {c:α->α->Int} {d:β->β->Int} (hc:Cmp c) (hd:Cmp d):Cmp (fun p q:α×β=>if c p.1 q.1=0 then d p.2 q.2 else c p.1 q.1) where
 refl:=by intro x; simp[hc.refl,hd.refl]
 eq:=by
  rintro⟨a,b⟩ ⟨a',b'⟩ h;simp only at h;split at h
  ·rename_i h1; rw[hc.eq _ _ h1,hd.eq _ _ h]
  ·rename_i h1; exact absurd h h1
 trans:=by
  rintro⟨a,b⟩ ⟨a',b'⟩ ⟨a'',b''⟩ h1 h2;simp only at h1 h2 |-;by_cases e1:c a a'=0
  ·have:=hc.eq _ _ e1; subst this;rw[if_pos e1]at h1;by_cases e2:c a a''=0
   ·rw[if_pos e2]at h2 |-; exact hd.trans _ _ _ h1 h2
   ·rw[if_neg e2]at h2 |-; exact h2
  ·rw[if_neg e1]at h1;by_cases e2:c a' a''=0
   ·have:=hc.eq _ _ e2; subst this;rw[if_neg e1]; exact h1
   ·rw[if_neg e2]at h2;have:=hc.lt h1 h2 (.inl e1);rw[if_neg (by omega)]; omega
 anti:=by
  rintro⟨a,b⟩ ⟨a',b'⟩ h1 h2;simp only at h1 h2 |-;by_cases e1:c a a'=0
  ·have:=hc.eq _ _ e1; subst this;rw[if_pos e1]at h1 h2 |-; exact hd.anti _ _ h1 h2
  ·rw[if_neg e1]at h1;by_cases e2:c a' a=0
   ·have:=hc.eq _ _ e2; subst this; exact absurd e2 e1
   ·rw[if_neg e2]at h2; exact absurd (hc.anti _ _ h1 h2) e1
theorem zIE {α:Type} {p:α->Bool} {xs:List α} {i j:Nat} (hi:i<xs.length) (hji:j<i) (h1:p xs[j]=true) (h2:p xs[i]=true):2<=(xs.filter p).length:=by
 conv=>rhs; rw[<- List.take_append_drop i xs]
 rw[List.filter_append,List.length_append]
 have a:0<((xs.take i).filter p).length:=by
  apply List.length_pos_of_mem (a:=xs[j]);rw[List.mem_filter];refine⟨?_,h1⟩;rw[List.mem_take_iff_getElem];exact⟨j,by omega,rfl⟩
 have b:0<((xs.drop i).filter p).length:=by
  apply List.length_pos_of_mem (a:=xs[i]);rw[List.mem_filter];refine⟨?_,h2⟩;exact List.mem_drop_iff_getElem.2 ⟨0,by omega,by simp⟩
 omega
theorem zOP {α:Type} {p:α->Bool} {xs:List α} {i:Nat} (hi:i<xs.length) (h:∀j (hj:j<xs.length),j≠i->p xs[j]=false):(xs.filter p).length<=1:=by
 have e:xs=xs.take i++xs[i]::xs.drop (i+1):=by rw[<- List.drop_eq_getElem_cons hi,List.take_append_drop]
 have a:(xs.take i).filter p=[]:=by
  rw[List.filter_eq_nil_iff];intro x hx;rw[List.mem_take_iff_getElem]at hx;obtain⟨j,hj,rfl⟩:=hx;rw[h j (by omega) (by omega)]; simp
 have b:(xs.drop (i+1)).filter p=[]:=by
  rw[List.filter_eq_nil_iff];intro x hx;rw[List.mem_drop_iff_getElem]at hx;obtain⟨j,hj,rfl⟩:=hx;rw[h (i+1+j) (by omega) (by omega)]; simp
 rw[e,List.filter_append,List.filter_cons,a,b]
 split <;> simp
end Go.Own
namespace Go.Proofs.YtilejnnnkfjmmaaGreatDoor
open Go Go.Own
def zPo (b:UInt8):List (List UInt8)->List UInt8
 | []=>[]
 | [p]=>p
 | p::q::ps=>p++b::zPo b (q::ps)
theorem z8D (b:UInt8):∀s:List UInt8,zPo b (splB b s)=s
 | []=>rfl
 | c::s=>by
   have ih:=z8D b s;unfold splB;split
   ·rename_i h;subst h
    cases hq:splB c s with
    | nil=>exact absurd hq (z6w c s)
    | cons q ps=>rw[hq]at ih; simp only[zPo,List.nil_append]; rw[ih]
   ·split
    ·rename_i p ps hq;rw[hq]at ih
     cases ps with
     | nil=>simp only[zPo]at ih |-; rw[ih]
     | cons q ps=>simp only[zPo,List.cons_append]at ih |-; rw[ih]
    ·rename_i hq;exact absurd hq (z6w b s)
theorem zGa {a b:List UInt8} (h:z1v a=z1v b):a=b:=by
 unfold z1v at h
 by_cases ha:a=[]
 ·subst ha;by_cases hb:b=[]
  ·exact hb.symm
  ·have:b.isEmpty=false:=by cases b <;> simp_all
   rw[this]at h;simp only[List.isEmpty_nil,if_true,Bool.false_eq_true,if_false]at h;exact absurd h.symm (z6w 46 b)
 ·have ea:a.isEmpty=false:=by cases a <;> simp_all
  rw[ea]at h;by_cases hb:b=[]
  ·subst hb;simp only[List.isEmpty_nil,if_true,Bool.false_eq_true,if_false]at h;exact absurd h (z6w 46 a)
  ·have eb:b.isEmpty=false:=by cases b <;> simp_all
   rw[eb]at h;simp only[Bool.false_eq_true,if_false]at h;rw[<- z8D 46 a,h,z8D]
theorem zNQ:Cmp cmpN where
 refl:=fun x=>zF0.refl _
 eq:=fun x y h=>zGa (List.reverse_inj.1 (zF0.eq _ _ h))
 trans:=fun x y z=>zF0.trans _ _ _
 anti:=fun x y=>zF0.anti _ _
def cmpP (p q:List UInt8×Int):Int:=if cmpN p.1 q.1=0 then intC p.2 q.2 else cmpN p.1 q.1
theorem z7d:Cmp cmpP:=zNQ.prod z5U
def Rec.key (r:Rec):List UInt8×Int:=(r.name,r.type)
theorem z7D (a b:Rec):cmpK a b=cmpP a.key b.key:=orL2 _ _
theorem zT1 {a b:Rec} (h:cmpR a b<0):cmpK a b<=0:=by
 unfold cmpR at h
 rw[orL3]at h
 split at h <;> omega
theorem zKQ (a:Rec):cmpR a a=0:=by
 unfold cmpR
 rw[orL3,z7D,z7d.refl,if_pos rfl,zEz.refl,if_pos rfl,z5U.refl]
theorem zJu {x r:Rec}:D.beq x.d r.d=true↔x=r:=by
 obtain⟨a,b,c,d⟩:=x
 obtain⟨a',b',c',d'⟩:=r
 simp[Rec.d,D.beq]
structure Rises (xs:List Rec):Prop where
 ok:∀r∈xs,r.ok=true
 up:∀i (h:i+1<xs.length),cmpR xs[i] xs[i+1]<0
theorem zJw {xs:List Rec} (h:z7p xs=true):Rises xs:=by
 have h':=z1S.1 h
 constructor
 ·intro r hr;obtain⟨i,hi,rfl⟩:=List.getElem_of_mem hr;have:=h' i hi;unfold upAt at this;simp only[Bool.and_eq_true,z0E hi]at this;exact this.1
 ·intro i hi;have:=h' (i+1) hi;unfold upAt at this;simp only[Bool.and_eq_true,z0E hi,Nat.add_sub_cancel,z0E (show i<xs.length by omega),Bool.or_eq_true,beq_iff_eq,decide_eq_true_eq]at this;rcases this.2 with h1 | h1
  ·omega
  ·exact h1
theorem Rises.le {xs:List Rec} (h:Rises xs) {i:Nat} (hi:i<xs.length):∀(m:Nat) (hm:i+m<xs.length),cmpP xs[i].key xs[i+m].key<=0
 | 0,hm=>by rw[show cmpP xs[i].key xs[i+0].key=0 from z7d.refl _]; omega
 | m+1,hm=>by
   have h1:=h.le hi m (by omega);have h2:=zT1 (h.up (i+m) (by omega));rw[z7D]at h2;exact z7d.trans _ _ _ h1 h2
theorem Rises.between {xs:List Rec} (h:Rises xs) {i m n:Nat} (hn:i+(m+n)<xs.length) (he:xs[i].key=xs[i+(m+n)].key):xs[i].key=xs[i+m].key:=by
 have h1:=h.le (i:=i) (by omega) m (by omega)
 have h2:=h.le (i:=i+m) (by omega) n (by omega)
 have e:xs[i+m+n]=xs[i+(m+n)]:=by congr 1; omega
 rw[e,<- he]at h2
 exact z7d.eq _ _ (z7d.anti _ _ h1 h2)
theorem Rises.ttl {xs:List Rec} (h:Rises xs) (h3:∀i,i<xs.length->z7b xs i=false) {i:Nat}:∀(m:Nat) (hm:i+m<xs.length),xs[i].key=xs[i+m].key->xs[i].ttl=xs[i+m].ttl
 | 0,hm,_=>rfl
 | m+1,hm,he=>by
   have hb:=h.between (i:=i) (m:=m) (n:=1) hm he;have ih:=h.ttl h3 m (by omega) hb;have ha:=h3 (i+(m+1)) hm;have hi0:i+(m+1)-1=i+m:=by omega
   unfold z7b at ha;rw[z0E hm,hi0,z0E (show i+m<xs.length by omega)]at ha;have hk:xs[i+m].key=xs[i+(m+1)].key:=hb.symm.trans he;have hk1:xs[i+m].name=xs[i+(m+1)].name:=congrArg Prod.fst hk;have hk2:xs[i+m].type=xs[i+(m+1)].type:=congrArg Prod.snd hk;rw[ih];by_cases ht:xs[i+m].ttl=xs[i+(m+1)].ttl
   ·exact ht
   ·simp[hk1,hk2,ht]at ha
theorem zQo {r:Rec} (h:r.ok=true):r.type≠0:=by
 intro h0
 unfold Rec.ok z3g at h
 simp[h0]at h
theorem zTO {xs:List Rec} (h:Rises xs):(∀r∈xs,(xs.filter (isAt r.name r.type)).any (brk3 r)=false)↔(∀i,i<xs.length->z7b xs i=false):=by
 constructor
 ·intro hk i hi;unfold z7b;by_cases h0:0<i
  ·have hi1:i-1<xs.length:=by omega
   rw[z0E hi,z0E hi1];by_cases hn:xs[i-1].name=xs[i].name
   ·by_cases ht:xs[i-1].type=xs[i].type
    ·have:=hk xs[i-1] (List.getElem_mem hi1);rw[List.any_eq_false]at this;have hb:=this xs[i] (by
      rw[List.mem_filter];exact⟨List.getElem_mem hi,by unfold isAt; simp[hn,ht]⟩)
     unfold brk3 at hb;simp only[Bool.or_eq_true,Bool.and_eq_true,not_or,not_and]at hb;obtain⟨hb1,hb2⟩:=hb;have e1:xs[i].ttl=xs[i-1].ttl:=by simpa using hb1
     by_cases hd:xs[i-1].data=xs[i].data
     ·have:=hb2 (by simp[hd]);have hx:D.beq xs[i].d xs[i-1].d=true:=by simpa using this
      have heq:=zJu.1 hx;have hup:=h.up (i-1) (by omega);have e:xs[i-1+1]'(by omega)=xs[i]:=by congr 1; omega
      rw[e,heq,zKQ]at hup;omega
     ·simp[e1,hd]
    ·simp[ht]
   ·simp[hn]
  ·have:decide (0<i)=false:=decide_eq_false h0;rw[this]; rfl
 ·intro h3 r hr;rw[List.any_eq_false];intro x hx;rw[List.mem_filter]at hx;obtain⟨hx,hat⟩:=hx;unfold isAt at hat;simp only[Bool.and_eq_true,beq_iff_eq,Bool.or_eq_true]at hat;have htp:x.type=r.type:=by
   rcases hat.2 with h1 | h1
   ·exact absurd h1 (zQo (h.ok r hr))
   ·exact h1
  have hkey:x.key=r.key:=by unfold Rec.key; rw[hat.1,htp]
  have httl:x.ttl=r.ttl:=by
   obtain⟨i,hi,rfl⟩:=List.getElem_of_mem hx;obtain⟨j,hj,rfl⟩:=List.getElem_of_mem hr;rcases Nat.le_total i j with hij | hij
   ·obtain⟨m,rfl⟩:=Nat.exists_eq_add_of_le hij;exact h.ttl h3 m hj hkey
   ·obtain⟨m,rfl⟩:=Nat.exists_eq_add_of_le hij;exact(h.ttl h3 m hi hkey.symm).symm
  unfold brk3;by_cases hd:x.data=r.data
  ·have:x=r:=by
    obtain⟨a,b,c,d⟩:=x;obtain⟨a',b',c',d'⟩:=r;simp only at hat htp httl hd;rw[hat.1,htp,httl,hd]
   have:=zJu.2 this;simp[httl,this]
  ·simp[httl,hd]
def zDw (apex:List UInt8) (r:Rec):Bool:=r.type==6 && !(r.name==apex)
theorem zQb (apex:List UInt8):∀xs:List Rec,soaS apex xs=((xs.filter (isAt apex 6)).length:Int)+2*((xs.filter (zDw apex)).length:Int)
 | []=>rfl
 | r::xs=>by
   have ih:=zQb apex xs;rw[soaS,ih,List.filter_cons,List.filter_cons];unfold soaW zDw isAt;by_cases h6:r.type=6
   ·by_cases hn:r.name=apex
    ·simp[h6,hn]; omega
    ·simp[h6,hn]; omega
   ·simp[h6]
theorem zRf {apex:List UInt8} {xs:List Rec}:(xs.any (zDw apex)=false/\(xs.filter (isAt apex 6)).length=1)↔soaS apex xs=1:=by
 rw[zQb]
 constructor
 ·rintro⟨h1,h2⟩;have:xs.filter (zDw apex)=[]:=by
   rw[List.filter_eq_nil_iff];rw[List.any_eq_false]at h1;exact h1
  rw[this,h2]; rfl
 ·intro h;have h0:(xs.filter (zDw apex)).length=0:=by omega
  refine⟨?_,by omega⟩;rw[List.any_eq_false];exact List.filter_eq_nil_iff.1 (List.length_eq_zero_iff.1 h0)
theorem zTP {xs:List Rec}:(∀r∈xs,r.type=5->(xs.filter (isAt r.name 0)).length<=1)↔(∀i,i<xs.length->∀j,j<i->zA7 (xs.getD j Rec.nul) (xs.getD i Rec.nul)=false):=by
 constructor
 ·intro h i hi j hj;have hjl:j<xs.length:=by omega
  rw[z0E hi,z0E hjl];unfold zA7;by_cases hn:xs[j].name=xs[i].name
  ·by_cases h1:xs[j].type=5
   ·have:=h _ (List.getElem_mem hjl) h1;have:=zIE (p:=isAt xs[j].name 0) hi hj (by simp[isAt]) (by simp[isAt,hn]);omega
   ·by_cases h2:xs[i].type=5
    ·have:=h _ (List.getElem_mem hi) h2;have:=zIE (p:=isAt xs[i].name 0) hi hj (by simp[isAt,hn]) (by simp[isAt]);omega
    ·simp[h1,h2]
  ·simp[hn]
 ·intro h r hr h5;obtain⟨i,hi,rfl⟩:=List.getElem_of_mem hr;refine zOP hi fun j hj hne=>?_;unfold isAt;by_cases hn:xs[j].name=xs[i].name
  ·exfalso;rcases Nat.lt_or_ge j i with hlt | hge
   ·have:=h i hi j hlt;rw[z0E hi,z0E hj]at this;unfold zA7 at this;simp[hn,h5]at this
   ·have:=h j hj i (by omega);rw[z0E hi,z0E hj]at this;unfold zA7 at this;simp[hn,h5]at this
  ·simp[hn]
theorem zTQ {apex:List UInt8} {xs:List Rec} (h1:∀r∈xs,bel r.name apex=true):∀r∈xs,xs.any (brk6 apex r)=z7G apex xs r:=by
 intro r hr
 rw[Bool.eq_iff_iff,List.any_eq_true]
 constructor
 ·rintro⟨c,hc,hb⟩;unfold brk6 at hb;simp only[Bool.and_eq_true,beq_iff_eq,Bool.not_eq_true',bne_iff_ne,ne_eq]at hb;obtain⟨⟨hct,hca,hcb⟩,hrt,hrn⟩:=hb;have hca':c.name≠apex:=by simpa using hca
  obtain⟨x,hx,hup⟩:=zQp (m:=fun n=>z6P xs n 2) (c:=c.name) (apex:=apex) (by
   unfold z6P; rw[List.any_eq_true]; exact⟨c,hc,by simp[hct]⟩) hca' (h1 c hc) (zAh.1 hcb) (r.name.length+1) none (by omega)
  unfold z7G zHG;rw[hx];simp only[Bool.and_eq_true,bne_iff_ne,ne_eq,Bool.or_eq_true,Bool.not_eq_true'];refine⟨hrt,?_⟩;by_cases h2:r.type=2
  ·right;have hne:r.name≠c.name:=by simpa [h2]using hrn
   have:r.name≠x:=by
    rintro rfl;exact hne (Up.anti (zAh.1 hcb) hup)
   simpa using this
  ·exact .inl h2
 ·intro hb;unfold z7G zHG at hb;split at hb
  ·cases hb
  rename_i x hx;simp only[Bool.and_eq_true,bne_iff_ne,ne_eq,Bool.or_eq_true,Bool.not_eq_true']at hb;obtain⟨hm,hup,hne,hbl⟩:=zIf (s0:=r.name) (r.name.length+1) r.name none (.refl _) (fun x h=>by cases h) x hx;unfold z6P at hm;rw[List.any_eq_true]at hm;obtain⟨c,hc,hcc⟩:=hm;simp only[Bool.and_eq_true,beq_iff_eq]at hcc;obtain⟨rfl,hct⟩:=hcc;refine⟨c,hc,?_⟩;unfold brk6;have hbr:=zAh.2 hup;simp only[hct,hbr,Bool.and_eq_true,beq_iff_eq,Bool.not_eq_true',bne_iff_ne,ne_eq];refine⟨⟨trivial,by simpa using hne,trivial⟩,hb.1,?_⟩;rcases hb.2 with h2 | h2
  ·simp[h2]
  ·simp only[beq_eq_false_iff_ne,ne_eq]at h2; simp[h2]
theorem zF8 {apex:List UInt8} {xs:List Rec} (h:Rises xs):(∀k,1<=k->k<=6->zJO apex xs k=true)↔RuleS apex xs:=by
 have hb:∀k,zJO apex xs k=true↔(∀r∈xs,brk apex xs r k=false)/\(k=2->(xs.filter (isAt apex 6)).length=1):=by
  intro k;unfold zJO;simp only[Bool.and_eq_true,Bool.not_eq_true',List.any_eq_false,Bool.or_eq_true,decide_eq_true_eq,decide_eq_false_iff_not];constructor
  ·rintro⟨h1,h2⟩;exact⟨fun r hr=>by simpa using h1 r hr,fun e=>by rcases h2 with h2 | h2; exact absurd e h2; exact h2⟩
  ·rintro⟨h1,h2⟩;refine⟨fun r hr=>by simp[h1 r hr],?_⟩;by_cases e:k=2
   ·exact .inr (h2 e)
   ·exact .inl e
 have b1:∀r,brk apex xs r 1 = !bel r.name apex:=fun r=>rfl
 have b2:∀r,brk apex xs r 2=zDw apex r:=fun r=>rfl
 have b3:∀r,brk apex xs r 3=(xs.filter (isAt r.name r.type)).any (brk3 r):=fun r=>rfl
 have b4:∀r,brk apex xs r 4=(r.type==5&&decide (1<(xs.filter (isAt r.name 0)).length)):=fun r=>rfl
 have b5:∀r,brk apex xs r 5=(r.type==5&&r.name==apex):=fun r=>rfl
 have b6:∀r,brk apex xs r 6=xs.any (brk6 apex r):=fun r=>rfl
 constructor
 ·intro hk;have k1:=((hb 1).1 (hk 1 (by omega) (by omega))).1;have k2:=(hb 2).1 (hk 2 (by omega) (by omega));have k3:=((hb 3).1 (hk 3 (by omega) (by omega))).1;have k4:=((hb 4).1 (hk 4 (by omega) (by omega))).1;have k5:=((hb 5).1 (hk 5 (by omega) (by omega))).1;have k6:=((hb 6).1 (hk 6 (by omega) (by omega))).1;have s1:∀r∈xs,bel r.name apex=true:=fun r hr=>by have:=k1 r hr; rw[b1]at this; simpa using this
  refine⟨s1,?_,(zTO h).1 (fun r hr=>by have:=k3 r hr; rwa [b3]at this),?_,?_,?_⟩
  ·refine zRf.1 ⟨?_,k2.2 rfl⟩;rw[List.any_eq_false];intro r hr;have:=k2.1 r hr;rw[b2]at this; simp[this]
  ·refine zTP.1 fun r hr h5=>?_;have:=k4 r hr;rw[b4]at this;simp[h5]at this;exact this
  ·unfold z6P;rw[List.any_eq_false];intro r hr;have:=k5 r hr;rw[b5]at this;simp only[Bool.and_eq_true,beq_iff_eq,Bool.and_eq_false_iff,beq_eq_false_iff_ne,ne_eq,not_and]at this |-;intro hn ht;rcases this with h1 | h1
   ·exact h1 ht
   ·exact h1 hn
  ·intro r hr;rw[<- zTQ s1 r hr];have:=k6 r hr
   rwa [b6]at this
 ·intro hs k h1 h6;rw[hb];have e2:=zRf.2 hs.s2
  match k,h1,h6 with
  | 1,_,_=>exact⟨fun r hr=>by rw[b1,hs.s1 r hr]; rfl,by omega⟩
  | 2,_,_=>
    refine⟨fun r hr=>?_,fun _=>e2.2⟩;rw[b2];have:=e2.1;rw[List.any_eq_false]at this;simpa using this r hr
  | 3,_,_=>exact⟨fun r hr=>by rw[b3]; exact(zTO h).2 hs.s3 r hr,by omega⟩
  | 4,_,_=>
    refine⟨fun r hr=>?_,by omega⟩;rw[b4];by_cases h5:r.type=5
    ·have:=zTP.2 hs.s4 r hr h5;simp[h5]; exact this
    ·simp[h5]
  | 5,_,_=>
    refine⟨fun r hr=>?_,by omega⟩;rw[b5];have:=hs.s5;unfold z6P at this;rw[List.any_eq_false]at this;have:=this r hr;simp only[Bool.and_eq_true,beq_iff_eq,not_and]at this;by_cases h5:r.type=5
    ·by_cases hn:r.name=apex
     ·exact absurd h5 (this hn)
     ·simp[hn]
    ·simp[h5]
  | 6,_,_=>
    refine⟨fun r hr=>?_,by omega⟩;rw[b6,zTQ hs.s1 r hr];exact hs.s6 r hr
end Go.Proofs.YtilejnnnkfjmmaaGreatDoor
namespace Go.Proofs.YtilejnnnkfjmmaaGreatDoor
open Go Go.Own
structure Zn where
 apex:List UInt8
 counter:Int
 recs:List Rec
def Zn.d (z:Zn):D:=.pair (.str z.apex) (.pair (.int z.counter) (.pair (.lst (z.recs.map Rec.d)) .unit))
structure Zn.In (B:Nat) (z:Zn):Prop where
 apex:z.apex.length<=B
 len:z.recs.length<=B
 all:∀r∈z.recs,r.In B
structure Zn.Good (z:Zn):Prop where
 cnt:inP z.counter 0 1152921504606846976=true
 apx:z7M z.apex=true
 n40:z.recs.length<=40
 ris:z7p z.recs=true
 rul:RuleS z.apex z.recs
 soa:∀r∈z.recs,r.type=6->r.data=Lib.itoa (z.counter % 4294967296)
open Classical in
noncomputable def Zn.good (z:Zn):Bool:=decide z.Good
open Classical in
theorem Zn.good_iff {z:Zn}:z.good=true↔z.Good:=by unfold Zn.good; exact decide_eq_true_iff
theorem zK7 {c:Int} (h:inP c 0 1152921504606846976=true):c.tmod 4294967296=c % 4294967296/\0<=c % 4294967296/\c % 4294967296<10 ^ 18:=by
 have hp18:(10:Int) ^ 18=1000000000000000000:=by decide
 simp only[inP,Bool.and_eq_true,decide_eq_true_eq]at h
 refine⟨Int.tmod_eq_emod_of_nonneg h.1,by omega,by omega⟩
theorem zDm {c:Int} (h:inP c 0 1152921504606846976=true):z2Z.F [.int c]=some (.str (Lib.itoa (c % 4294967296))):=by
 obtain⟨h1,h2,h3⟩:=zK7 h
 rw[zDM]
 refine z0G rfl ?_
 rw[D.i_int,h1]
 exact z03 (zDj h2 h3) rfl
theorem zPd {z:Zn} (h:inP z.counter 0 1152921504606846976=true):z4H.F [z.d]=some (.str (Lib.itoa (z.counter % 4294967296))):=by
 obtain⟨h1,h2,h3⟩:=zK7 h
 rw[zLb]
 refine z0G rfl ?_
 have f1:(z.d.fld 1).i=z.counter:=rfl
 rw[f1,h1]
 exact z03 (zMa h2 h3) rfl
theorem zMX (c:Int):z4X.F [.int c]=some (.bool (inP c 0 1152921504606846976)):=by
 rw[zEn]
 exact z03 (z4u c 0 1152921504606846976) rfl
theorem zBP {apex:List UInt8} {xs:List Rec}:zHd apex xs=true↔z7M apex=true/\xs.length<=40/\z7p xs=true:=by
 unfold zHd; simp
theorem zSr {apex:List UInt8} {xs:List Rec} (h:RuleS apex xs):∃r,r∈xs/\xs.filter (isAt apex 6)=[r]/\r.type=6/\r.name=apex/\∀x∈xs,x.type=6->x=r:=by
 have h2:=zRf.2 h.s2
 obtain⟨r,hr⟩:=List.length_eq_one_iff.1 h2.2
 have hm:r∈xs.filter (isAt apex 6):=by rw[hr]; simp
 rw[List.mem_filter]at hm
 have hat:=hm.2
 unfold isAt at hat
 simp at hat
 refine⟨r,hm.1,hr,hat.2,hat.1,fun x hx h6=>?_⟩
 have hoff:=h2.1
 rw[List.any_eq_false]at hoff
 have hxo:=hoff x hx
 unfold zDw at hxo
 have hxn:x.name=apex:=by simpa [h6]using hxo
 have:x∈xs.filter (isAt apex 6):=by
  rw[List.mem_filter]; exact⟨hx,by unfold isAt; simp[hxn,h6]⟩
 rw[hr]at this
 simpa using this
theorem zI7 {z:Zn} (hz:z.In lim):z3N.F [z.d]=some (.bool z.good):=by
 rw[zGe]
 have f0:z.d.fld 0=.str z.apex:=rfl
 have f1:z.d.fld 1=.int z.counter:=rfl
 have f2:z.d.fld 2=.lst (z.recs.map Rec.d):=rfl
 rw[f0,f1,f2]
 refine z06 (l:=[.bool z.good]) ?_ rfl
 have hc:=zMX z.counter
 obtain⟨n,hn,hnz⟩:=zNX hz.apex hz.len hz.all
 cases k1:inP z.counter 0 1152921504606846976 with
 | false=>
   rw[k1]at hc;have:z.good=false:=by
    cases hg:z.good with
    | false=>rfl
    | true=>have:=(Zn.good_iff.1 hg).cnt; rw[k1]at this; cases this
   rw[this];exact z04 hc (z00 (by simp) rfl)
 | true=>
   rw[k1]at hc;refine z04 hc (z01 rfl (z04 hn ?_));by_cases h0:n=0
   ·refine z01 (by simp[h0]) ?_;obtain⟨hw,hk⟩:=hnz.1 h0;rw[zBP]at hw;have hR:=(zF8 (apex:=z.apex) (zJw hw.2.2)).1 hk;obtain⟨r,hr,hf,h6,hna,huniq⟩:=zSr hR;have hat:=f_at (xs:=z.recs) (n:=z.apex) (k:=6) hz.len;rw[hf]at hat;refine z04 hat (z01 rfl (z04 (zDm k1) ?_));have:z.good=(r.data==Lib.itoa (z.counter % 4294967296)):=by
     rw[Bool.eq_iff_iff,Zn.good_iff,beq_iff_eq];constructor
     ·intro hg; exact hg.soa r hr h6
     ·intro hd;exact⟨k1,hw.1,hw.2.1,hw.2.2,hR,fun x hx hx6=>by rw[huniq x hx hx6]; exact hd⟩
    rw[this]; rfl
   ·refine z00 (by simpa using h0) ?_;have:z.good=false:=by
     cases hg:z.good with
     | false=>rfl
     | true=>
       have hG:=Zn.good_iff.1 hg;exact absurd (hnz.2 ⟨zBP.2 ⟨hG.apx,hG.n40,hG.ris⟩,(zF8 (zJw hG.ris)).2 hG.rul⟩) h0
    rw[this]
theorem zKl {apex:List UInt8} {xs:List Rec} (ha:apex.length<=lim) (hl:xs.length<=lim) (hx:∀x∈xs,x.In lim) :
 ∃n:Int,z5x.F [.str apex,.lst (xs.map Rec.d)]=some (.int n)/\(n=0↔zHd apex xs=true/\RuleS apex xs):=by
 rw[zJm]
 have h1:=zNc ha
 have h2:=zRC hl hx
 obtain⟨n,hn,hnz⟩:=zNd ha hl hx
 cases k1:z7M apex with
 | false=>
   rw[k1]at h1;refine⟨9,z06 (l:=[.bool true]) (z04 h1 (z01 rfl rfl)) (z0G rfl rfl),?_⟩;constructor
   ·intro h; cases h
   ·intro h; have:=(zBP.1 h.1).1; rw[k1]at this; cases this
 | true=>
   rw[k1]at h1
   cases k2:(z7p xs&&decide (xs.length<=40))with
   | false=>
     rw[k2]at h2;refine⟨9,z06 (l:=[.bool true]) (z04 h1 (z00 (by simp) (z04 h2 rfl))) (z0G rfl rfl),?_⟩;constructor
     ·intro h; cases h
     ·intro h;have:=zBP.1 h.1;rw[this.2.2]at k2; simp at k2; omega
   | true=>
     rw[k2]at h2;refine⟨n,z06 (l:=[.bool false]) (z04 h1 (z00 (by simp) (z04 h2 rfl))) (z05 (by simp) (z03 hn rfl)),?_⟩;rw[hnz];simp only[Bool.and_eq_true,decide_eq_true_eq]at k2;exact⟨fun h=>⟨zBP.2 ⟨k1,k2.2,k2.1⟩,h⟩,fun h=>h.2⟩
theorem zAT {z:Zn} (hz:z.In lim):z3Q.F [z.d]=some (.bool z.good):=by
 rw[zGq]
 have f0:z.d.fld 0=.str z.apex:=rfl
 have f1:z.d.fld 1=.int z.counter:=rfl
 have f2:z.d.fld 2=.lst (z.recs.map Rec.d):=rfl
 have hll:(D.lst (z.recs.map Rec.d)).l=z.recs.map Rec.d:=rfl
 rw[f0,f1,f2]
 simp only[hll,List.length_map]
 have hsm:=Nat.le_trans hz.len z1I
 have hc:=z7J z.counter 0 1152921504606846976
 obtain⟨n,hn,hnz⟩:=zKl hz.apex hz.len hz.all
 cases k1:inP z.counter 0 1152921504606846976 with
 | false=>
   rw[k1]at hc;have:z.good=false:=by
    cases hg:z.good with
    | false=>rfl
    | true=>have:=(Zn.good_iff.1 hg).cnt; rw[k1]at this; cases this
   rw[this];exact z06 (l:=[.bool true]) (z04 hc (z01 rfl rfl)) (z0G rfl rfl)
 | true=>
   rw[k1]at hc;by_cases h0:n=0
   ·obtain⟨hw,hR⟩:=hnz.1 h0;rw[zBP]at hw;have hs:=zPd (z:=z) k1;have hloop:=z38 (f:=fun l2=>
     if (decide ((gd l2 0).i<(z.recs.length:Int)))then
      if (inb (gd l2 0).i z.recs.length)then
      (if (((gd (z.recs.map Rec.d) (gd l2 0).i.toNat).fld 1).i==6)then
          (z4H.F [z.d]).bind fun r3=>
          ou 0 [(.bool (!(((gd (z.recs.map Rec.d) (gd l2 0).i.toNat).fld 3).s==r3.s)))]
        else
         ou 0 [(.bool false)]).bind fun o3=>
      sel2 o3.1 (if (gd o3.2 0).b then
       ou 1 [(.bool false)]
       else
        ou 0 [(.int (IntKind.wrap .i64 ((gd l2 0).i+1)))]) fun _=>none
      else none
     else
      ou 2 []) (l:=[.int 0]) (fun i=>[.int i]) z.recs.length (fun i=>!((z.recs.getD i Rec.nul).type==6 && !((z.recs.getD i Rec.nul).data==Lib.itoa (z.counter % 4294967296)))) (t1:=0) (t2:=1) (o1:=[.bool false]) (o2:=[]) rfl (by
     intro i hi;have e0:(gd [D.int (i:Int)] 0).i.toNat=i:=by simp
     have e1:(gd [D.int (i:Int)] 0).i=i:=rfl;have g1:(z.recs[i].d.fld 1).i=z.recs[i].type:=rfl;have g3:(z.recs[i].d.fld 3).s=z.recs[i].data:=rfl;rw[e0,e1,z0P hi hsm,z5A hi,z0E hi,g1,g3];refine z01 (by simpa using hi) (z01 (by simpa using z0B hi) (z0w (r:=(0,[.bool (z.recs[i].type==6 && !(z.recs[i].data==Lib.itoa (z.counter % 4294967296)))])) ?_ (sel0 ?_)))
     ·by_cases h6:z.recs[i].type=6
      ·exact z01 (by simpa using h6) (z04 hs (by simp[h6]))
      ·exact z00 (by simpa using h6) (by simp[h6])
     ·cases (z.recs[i].type==6 && !(z.recs[i].data==Lib.itoa (z.counter % 4294967296))) <;> simp) (by exact z00 (by simp) rfl)
    have hall:allN z.recs.length (fun i=>!((z.recs.getD i Rec.nul).type==6 && !((z.recs.getD i Rec.nul).data==Lib.itoa (z.counter % 4294967296))))=z.good:=by
     rw[z4v z.recs (fun r=>!(r.type==6 && !(r.data==Lib.itoa (z.counter % 4294967296)))) Rec.nul,Bool.eq_iff_iff,Zn.good_iff,List.all_eq_true];constructor
     ·intro h;refine⟨k1,hw.1,hw.2.1,hw.2.2,hR,fun r hr h6=>?_⟩;have:=h r hr;simpa [h6]using this
     ·intro h r hr;by_cases h6:r.type=6
      ·simp[h6,h.soa r hr h6]
      ·simp[h6]
    rw[hall]at hloop;refine z06 (l:=[.bool false]) (z04 hc (z00 (by simp) (z04 hn (by simp[h0])))) (z05 (by simp) (z0L hloop ?_))
    cases z.good <;> rfl
   ·have:z.good=false:=by
     cases hg:z.good with
     | false=>rfl
     | true=>
       have hG:=Zn.good_iff.1 hg;exact absurd (hnz.2 ⟨zBP.2 ⟨hG.apx,hG.n40,hG.ris⟩,hG.rul⟩) h0
    rw[this];refine z06 (l:=[.bool true]) (z04 hc (z00 (by simp) (z04 hn ?_))) (z0G rfl rfl);simp only[zTe,D.i_int];have:(n != 0)=true:=by simpa using h0
    rw[this]
def zIZ (apex:List UInt8):Rec:=⟨apex,6,60,[48]⟩
def newZ (apex:List UInt8):Zn:=⟨apex,0,[zIZ apex]⟩
theorem zLG {apex:List UInt8}:(newZ apex).good=z7M apex:=by
 rw[Bool.eq_iff_iff,Zn.good_iff]
 constructor
 ·intro h; exact h.apx
 ·intro h;have hn:z11 apex=true:=by unfold z7M at h; simp only[Bool.and_eq_true]at h; exact h.1
  have hok:(zIZ apex).ok=true:=by
   have h1:z3g 6 [48]=true:=by decide
   unfold Rec.ok;show(z3g 6 [48]&&(z11 apex&&inP 60 0 100000))=true;rw[h1,hn]; rfl
  refine⟨show inP 0 0 1152921504606846976=true from rfl,h,by simp[newZ],?_,?_,?_⟩
  ·unfold z7p;rw[z1S];intro i hi;have:i=0:=by simp[newZ]at hi; exact hi
   subst this;unfold upAt;show((zIZ apex).ok&&_)=true;rw[hok]; rfl
  ·have hb:bel apex apex=true:=zAh.2 (.refl _);refine⟨?_,?_,?_,?_,?_,?_⟩
   ·intro r hr;simp only[newZ,List.mem_singleton]at hr;subst hr; exact hb
   ·simp[newZ,soaS,soaW,zIZ]
   ·intro i hi;have:i=0:=by simp[newZ]at hi; exact hi
    subst this; rfl
   ·intro i hi j hj;have:i=0:=by simp[newZ]at hi; exact hi
    omega
   ·simp[newZ,z6P,zIZ]
   ·intro r hr;simp only[newZ,List.mem_singleton]at hr;subst hr;unfold z7G zHG;show(match z7u apex _ (apex.length+1) apex none with | none=>false | some c=>_)=false
    unfold z7u;rw[if_neg (by simp)]
  ·intro r hr _;simp only[newZ,List.mem_singleton]at hr;subst hr;show [48]=Lib.itoa ((0:Nat):Int);rw[z62,Lib.decDigits_one (by omega)]; rfl
def zNul:D:=.pair (.str []) (.pair (.int 0) (.pair (D.lst []) .unit))
def zOj (apex:List UInt8):D:=if z7M apex=true then .pair (newZ apex).d (.pair (.bool true) .unit)else .pair zNul (.pair (.bool false) .unit)
theorem zQ3 {apex:List UInt8} (h:apex.length<=lim):(newZ apex).In lim:=by
 have hlim:lim=1048576:=rfl
 refine⟨h,by simp[newZ]; omega,?_⟩
 intro r hr
 simp only[newZ,List.mem_singleton]at hr
 subst hr
 exact⟨h,by simp[zIZ]; omega⟩
theorem zPS {apex:List UInt8} (h:apex.length<=lim):z5C.F [.str apex]=some (zOj apex):=by
 rw[zHo]
 have hg:=zI7 (zQ3 h)
 rw[zLG]at hg
 refine z03 hg ?_
 unfold zOj
 cases z7M apex with
 | false=>exact z0G rfl rfl
 | true=>exact z05 (by simp) rfl
theorem zIy {apex:List UInt8} (h:apex.length<=lim):z5J.F [.str apex]=some (zOj apex):=by
 rw[zHw]
 refine z03 (zNc h) ?_
 unfold zOj
 cases z7M apex with
 | false=>exact z0G rfl rfl
 | true=>exact z05 (by simp) rfl
end Go.Proofs.YtilejnnnkfjmmaaGreatDoor
namespace Go.Own
variable [Glb]
open Go
theorem zMy {α:Type} {g:α->D} {c:Prop} [Decidable c] {a b:Outc} (h:¬c) (hk:∃s,rn b=some (g s)):∃s,rn (if c then a else b)=some (g s):=by rw[if_neg h]; exact hk
theorem zKW {f:List D->Outc} {c:Nat×List D->Outc} {k:Int} (h0:0<=k) (h1:k<10 ^ 18)
 (hs:∀(n:Int) (s:List UInt8),0<n->n<10 ^ 18->s.length<=30->∃c:List UInt8,c.length=1/\f [.int n,.str s]=some (0,[.int (n.tdiv 10),.str (c++s)]))
 (he:∀(n:Int) (s:List UInt8),n<=0->f [.int n,.str s]=some (1,[.str s])) (hc:∀s:List UInt8,s.length<=30->∃s',rn (c (0,[.str s]))=some (.str s')) :
 ∃s,rn ((z0d f [.int k,.str []]).bind c)=some (.str s):=by
 have key:∀(fuel:Nat),fuel<=18->∀(n:Int) (s:List UInt8),0<=n->n<10 ^ fuel->s.length+fuel<=30->∃s',z0d f [.int n,.str s]=some (0,[.str s'])/\s'.length<=30:=by
  intro fuel
  induction fuel with
  | zero=>
    intro _ n s h0 h1 h2;exact⟨s,z1B (he n s (by simp at h1; omega)),by omega⟩
  | succ m ih=>
    intro hm n s h0 h1 h2;by_cases hn:n<=0
    ·exact⟨s,z1B (he n s hn),by omega⟩
    ·have hp:(10:Int) ^ (m+1)=10 ^ m*10:=Int.pow_succ 10 m;have hp2:(10:Int) ^ (m+1)<=10 ^ 18:=by
      have:=Nat.pow_le_pow_right (n:=10) (by omega) hm
      exact_mod_cast this
     obtain⟨c,hc,hstep⟩:=hs n s (by omega) (by omega) (by omega);rw[z1m hstep];have h3:n.tdiv 10=n / 10:=Int.tdiv_eq_ediv_of_nonneg (by omega);refine ih (by omega) (n.tdiv 10) (c++s) (by omega) ?_ (by simp; omega);rw[h3];omega
 obtain⟨s,h2,h3⟩:=key 18 (Nat.le_refl _) k [] h0 h1 (by simp)
 rw[h2]
 exact hc s h3
end Go.Own
namespace Go.Proofs.YtilejnnnkfjmmaaGreatDoor
open Go Go.Own
abbrev tRec:T:=.pair .str (.pair (.int .i64) (.pair (.int .i64) (.pair .str .unit)))
abbrev zTU:T:=.pair .str (.pair (.int .i64) (.pair (.lst false tRec) .unit))
theorem pow18A:(10:Int) ^ 18=1000000000000000000:=by decide
theorem zTN {B:Nat} {d:D} (h:Sm B tRec d):∃x:Rec,d=x.d/\x.In B:=by
 obtain⟨_,_,rfl,⟨s,rfl,hs⟩,_,_,rfl,⟨n,rfl,_⟩,_,_,rfl,⟨m,rfl,_⟩,_,_,rfl,⟨t,rfl,ht⟩,rfl⟩:=h
 exact⟨⟨s,n,m,t⟩,rfl,hs,ht⟩
theorem zMk {α:Type} {g:α->D} {Q:α->Prop}:∀{xs:List D},(∀x∈xs,∃y:α,x=g y/\Q y)->∃ys:List α,xs=ys.map g/\∀y∈ys,Q y
 | [],_=>⟨[],rfl,by simp⟩
 | x::xs,h=>by
   obtain⟨y,rfl,hy⟩:=h x (by simp);obtain⟨ys,rfl,hys⟩:=zMk (xs:=xs) (fun z hz=>h z (by simp[hz]));exact⟨y::ys,rfl,by simpa using ⟨hy,hys⟩⟩
theorem zSv {B:Nat} {d:D} (h:Sm B zTU d):∃z:Zn,d=z.d/\z.In B:=by
 obtain⟨_,_,rfl,⟨s,rfl,hs⟩,_,_,rfl,⟨n,rfl,_⟩,_,_,rfl,⟨xs,rfl,hl,hc⟩,rfl⟩:=h
 obtain⟨ys,rfl,hys⟩:=zMk (g:=Rec.d) (Q:=fun r=>r.In B) (fun x hx=>zTN (hc x hx))
 exact⟨⟨s,n,ys⟩,rfl,hs,by simpa using hl,hys⟩
theorem f_eqRecord (x:Rec):z4r.F [x.d,x.d]=some (.bool true):=by
 rw[zGm]; simp[Rec.d]
def recZ:D:=.pair (.str []) (.pair (.int 0) (.pair (.int 0) (.pair (.str []) .unit)))
theorem len_wrapA {left:Int} {n:Nat} (h0:0<=left) (h1:left<=lim) (hn:n<=smax):IntKind.wrap .i64 (left-(n:Int))=left-n:=by
 have hlim:(lim:Int)=1048576:=rfl
 have hsm:(smax:Int)=9223372036854775807:=rfl
 exact z0f (by omega) (by omega)
def zK5 (s:Int) (x:D):Int:=if s-(x.fld 0).s.length<0 then -1 else if s-(x.fld 0).s.length-(x.fld 3).s.length<0 then -1 else s-(x.fld 0).s.length-(x.fld 3).s.length
theorem zIe {x:Rec} (s:Int) (h0:0<=s) (h1:s<=lim):zK5 s x.d<=s/\(0<=zK5 s x.d->x.In lim):=by
 have hd:(x.d.fld 0).s=x.name:=rfl
 have hd1:(x.d.fld 3).s=x.data:=rfl
 simp only[zK5,hd,hd1]
 by_cases h:s-(x.name.length:Int)<0
 ·rw[if_pos h]; omega
 ·rw[if_neg h];by_cases h2:s-(x.name.length:Int)-(x.data.length:Int)<0
  ·rw[if_pos h2]; omega
  ·rw[if_neg h2]; exact⟨by omega,fun _=>⟨by omega,by omega⟩⟩
theorem Rec.d_inj {x y:Rec} (h:x.d=y.d):x=y:=by
 obtain⟨a,b,c,d⟩:=x
 obtain⟨a',b',c',d'⟩:=y
 simp only[Rec.d,D.pair.injEq,D.str.injEq,D.int.injEq]at h
 obtain⟨h2,h3,h4,h5,_⟩:=h
 subst h2; subst h3; subst h4; subst h5; rfl
theorem zNA {xs:List Rec} {left:Int} (h0:0<=left) (h1:left<=lim):szL zK5 (xs.map Rec.d) left<=left/\(0<=szL zK5 (xs.map Rec.d) left->xs.length<=lim/\∀x∈xs,x.In lim):=by
 have hs:=zRn (c:=zK5) (Q:=fun d=>∃y:Rec,d=y.d/\y.In lim) (xs:=xs.map Rec.d) (left:=left) h1 (by
  intro x hx' s h1 h2;obtain⟨y,hy,rfl⟩:=List.mem_map.1 hx';exact⟨(zIe s h1 h2).1,fun h=>⟨y,rfl,(zIe s h1 h2).2 h⟩⟩) h0
 refine⟨hs.1,fun hp=>?_⟩
 have:=hs.2 hp
 refine⟨by simpa using this.1,fun x hx=>?_⟩
 obtain⟨y,hy,hyl⟩:=this.2 x.d (List.mem_map.2 ⟨x,hx,rfl⟩)
 rw[Rec.d_inj hy]; exact hyl
def szZn (s:Int) (x:D):Int:=if s-(x.fld 0).s.length<0 then -1 else if szL zK5 (x.fld 2).l (s-(x.fld 0).s.length)<0 then -1 else szL zK5 (x.fld 2).l (s-(x.fld 0).s.length)
theorem szZn_spec {z:Zn} (s:Int) (h0:0<=s) (h1:s<=lim):szZn s z.d<=s/\(0<=szZn s z.d->z.In lim):=by
 have f0:(z.d.fld 0).s=z.apex:=rfl
 have f2:z.d.fld 2=.lst (z.recs.map Rec.d):=rfl
 simp only[f0,f2,szZn,D.l_lst]
 by_cases h:s-(z.apex.length:Int)<0
 ·rw[if_pos h]; omega
 ·rw[if_neg h];have:=zNA (xs:=z.recs) (left:=s-(z.apex.length:Int)) (by omega) (by omega);by_cases h2:szL zK5 (z.recs.map Rec.d) (s-(z.apex.length:Int))<0
  ·rw[if_pos h2]; omega
  ·rw[if_neg h2];refine⟨by omega,fun hp=>?_⟩;have h3:=this.2 hp;exact⟨by omega,h3.1,h3.2⟩
theorem zIC {k:Int} (h0:0<=k) (h1:k<10 ^ 18):∃s,z1p.F [.int k]=some (.str s):=by
 rw[zGn]
 by_cases hk:k<=0
 ·exact⟨_,z0G (decide_eq_true hk) rfl⟩
 refine zMy (g:=D.str) (fun h=>hk (of_decide_eq_true h)) (zKW h0 h1 ?_ ?_ ?_)
 ·intro n s hn hn2 hs;refine⟨_,z1T [.int (IntKind.wrap .u8 (IntKind.wrap .i64 (48+(n.tmod 10))))],?_⟩;have hc:catOk (z0k [.int (IntKind.wrap .u8 (IntKind.wrap .i64 (48+(n.tmod 10))))]) s=true:=by
   unfold catOk;rw[z1T];simp[smax]; omega
  have h3:n.tdiv 10=n / 10:=Int.tdiv_eq_ediv_of_nonneg (by omega);have hw:IntKind.wrap .i64 (n.tdiv 10)=n.tdiv 10:=by rw[h3]; exact z0f (by omega) (by omega)
  refine z01 (decide_eq_true hn) (z01 (by decide) (z01 hc ?_));simp only[z16,D.i_int,hw];rfl
 ·intro n s hn;exact z00 (fun h=>absurd (of_decide_eq_true h) (Int.not_lt.2 hn)) rfl
 ·intro s hs;refine⟨_,z0G (by simp[catOk,smax]; omega) rfl⟩
noncomputable def mtA (k:Int):List UInt8:=if h:0<=k/\k<10 ^ 18 then(zIC h.1 h.2).choose else []
theorem mtA_is {k:Int} (h0:0<=k) (h1:k<10 ^ 18):z1p.F [.int k]=some (.str (mtA k)):=by
 unfold mtA
 rw[dif_pos ⟨h0,h1⟩]
 exact(zIC h0 h1).choose_spec
noncomputable def rmk (k:Int):Rec:=⟨mtA k,k+1,k+2,mtA (k+3)⟩
noncomputable def rmk4 (k:Int) (i:Nat):D:=(rmk (k+4*i)).d
noncomputable def zJS (k:Int) (n:Nat):List Rec:=(List.range n).map fun i:Nat=>rmk (k+4*i)
theorem markedR_d (k:Int) (n:Nat):(List.range n).map (rmk4 k)=(zJS k n).map Rec.d:=by
 simp only[zJS,List.map_map]
 rfl
theorem markedR_len (k:Int) (n:Nat):(zJS k n).length=n:=by simp[zJS]
theorem Zn.In.smax {z:Zn} (h:z.In lim):z.In smax:=⟨Nat.le_trans h.apex z1I,Nat.le_trans h.len z1I,fun r hr=>⟨Nat.le_trans (h.all r hr).name z1I,Nat.le_trans (h.all r hr).data z1I⟩⟩
end Go.Proofs.YtilejnnnkfjmmaaGreatDoor
