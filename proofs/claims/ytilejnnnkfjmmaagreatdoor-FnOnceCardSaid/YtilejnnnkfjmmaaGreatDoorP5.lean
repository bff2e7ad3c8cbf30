/- What the functions compute, in plain words. -/
import Derived.Test.YtilejnnnkfjmmaaGreatDoorP4
set_option linter.unusedSectionVars false
set_option linter.unusedVariables false
set_option linter.unusedSimpArgs false
namespace Go.Proofs.YtilejnnnkfjmmaaGreatDoor
open Go Go.Own
def same (x r:Rec):Bool:=r.name==x.name&&(r.type==x.type&&r.data==x.data)
def z7H (xs:List Rec) (x:Rec):List Rec:=xs.filter fun r=>!same x r
theorem z9q (r x:Rec):z1q.F [r.d,x.d]=some (.bool (same x r)):=by
 rw[zEl]
 have f0:∀y:Rec,(y.d.fld 0).s=y.name:=fun _=>rfl
 have f1:∀y:Rec,(y.d.fld 1).i=y.type:=fun _=>rfl
 have f3:∀y:Rec,(y.d.fld 3).s=y.data:=fun _=>rfl
 rw[f0,f0,f1,f1,f3,f3]
 refine z06 (l:=[.bool (same x r)]) ?_ rfl
 unfold same
 by_cases h0:(r.name==x.name)=true
 ·rw[h0,Bool.true_and];refine z01 rfl ?_;by_cases h1:(r.type==x.type)=true
  ·rw[h1,Bool.true_and]; exact z01 rfl rfl
  ·have h1':(r.type==x.type)=false:=by simpa using h1
   rw[h1']; exact z00 (by simp) rfl
 ·have h0':(r.name==x.name)=false:=by simpa using h0
  rw[h0']; exact z00 (by simp) rfl
theorem zKY {xs:List Rec} {x r:Rec} (h:r∈z7H xs x):r∈xs:=(List.mem_filter.1 h).1
theorem zBV (xs:List Rec) (x:Rec):(z7H xs x).length<=xs.length:=List.length_filter_le _ _
theorem zMM {xs:List Rec} (x:Rec) (h:Rises xs):Rises (z7H xs x):=Rises.of (fun r hr=>h.ok r (zKY hr)) (h.pw.filter _)
theorem drop_take {xs:List Rec} {x:Rec} {i:Nat} (hi:i<xs.length):z7H (xs.take (i+1)) x=z7H (xs.take i) x++(if same x xs[i]then []else [xs[i]]):=by
 unfold z7H
 rw[List.take_add_one,List.getElem?_eq_getElem hi,List.filter_append]
 congr 1
 cases h:same x xs[i] <;> simp[h]
theorem zRB {xs:List Rec} {x:Rec} (hl:xs.length<=1000000):z1r.F [.lst (xs.map Rec.d),x.d]=some (.lst ((z7H xs x).map Rec.d)):=by
 have hlim:lim=1048576:=rfl
 have hlen:(D.lst (xs.map Rec.d)).l.length=xs.length:=by simp
 rw[zJr,hlen]
 refine z06 (l:=[.lst ((z7H xs x).map Rec.d)]) (z2Q (fun i (s:List Rec)=>[.lst (s.map Rec.d),.int (i:Int)]) xs.length (fun i=>z7H (xs.take i) x) (t:=0) (by simp[z7H]) ?_ ?_) rfl
 ·intro i hi;have e1:(gd [D.lst ((z7H (xs.take i) x).map Rec.d),D.int (i:Int)] 1).i=(i:Int):=rfl;have hg:gd (D.lst (xs.map Rec.d)).l i=xs[i].d:=z5A hi;have f0:∀y:Rec,(y.d.fld 0).s=y.name:=fun _=>rfl;have f1:∀y:Rec,(y.d.fld 1).i=y.type:=fun _=>rfl;have f3:∀y:Rec,(y.d.fld 3).s=y.data:=fun _=>rfl;simp only[e1,Int.toNat_natCast,hg,f0,f1,f3];have hdl:=zBV (xs.take i) x;rw[List.length_take]at hdl;refine z01 (decide_eq_true (by omega)) (z0b (l:=[.lst ((z7H (xs.take (i+1)) x).map Rec.d)]) (z01 (z0B hi) (z0b (l:=[.bool !(same x xs[i])]) ?_ ?_)) ?_)
  ·unfold same;by_cases h0:(xs[i].name==x.name)=true
   ·refine z00 (by simp[h0]) ?_;by_cases h1:(xs[i].type==x.type)=true
    ·refine z00 (by simpa using h1) ?_;rw[h0,h1]; simp
    ·have h1':(xs[i].type==x.type)=false:=by simpa using h1
     rw[h0,h1'];exact z01 (by simpa using h1) rfl
   ·have h0':(xs[i].name==x.name)=false:=by simpa using h0
    rw[h0'];exact z01 rfl rfl
  ·rw[drop_take hi]
   cases hs:same x xs[i]with
   | true=>exact z00 (by simp) (by simp)
   | false=>
     refine z01 rfl (z01 (z1F (by simp; omega) (by simp; omega) (by decide)) ?_);show some (0,[D.lst ((z7H (xs.take i) x).map Rec.d++[xs[i].d])])=_;simp
  ·show some (0,[D.lst ((z7H (xs.take (i+1)) x).map Rec.d),D.int (IntKind.wrap .i64 ((i:Int)+1))])=_;rw[z0P hi (by rw[z0c]; omega)]
 ·rw[List.take_length];exact z00 (by simp) rfl
theorem zR9 {xs:List Rec} {x:Rec} (hl:xs.length<=1000000):(∃k:Nat,∃hk:k<xs.length,z0J.F [.lst (xs.map Rec.d),.pair x.d .unit]=some (.int (k:Int))/\same x xs[k]=true/\∀i (hi:i<xs.length),i<k->same x xs[i]=false) \/
 (z0J.F [.lst (xs.map Rec.d),.pair x.d .unit]=some (.int (-1))/\∀i (hi:i<xs.length),same x xs[i]=false):=by
 have hlen:(D.lst (xs.map Rec.d)).l.length=xs.length:=by simp
 have hx0:(D.pair x.d .unit).fld 0=x.d:=rfl
 rw[z2n,hlen,hx0]
 have hf:=z65 (f:=fun l2=>
  if (decide ((gd l2 0).i<(xs.length:Int)))then
   if (inb (gd l2 0).i xs.length)then
   (z1q.F [(gd (D.lst (xs.map Rec.d)).l (gd l2 0).i.toNat),x.d]).bind fun r3=>
   if r3.b then
    ou 1 [(gd l2 0)]
   else
    ou 0 [(.int (IntKind.wrap .i64 ((gd l2 0).i+1)))]
   else none
  else
   ou 2 []) (l:=[.int 0]) (fun i=>[.int (i:Int)]) xs.length (fun i=>!(same x (xs.getD i Rec.nul))) (t1:=0) (t2:=1) (o1:=fun i=>[.int (i:Int)]) (o2:=[]) rfl (by
  intro i hi hp;rw[z0E hi]at hp;have e0:(gd [D.int (i:Int)] 0).i=(i:Int):=rfl;have hg:gd (D.lst (xs.map Rec.d)).l i=xs[i].d:=z5A hi;simp only[e0,Int.toNat_natCast,hg];refine z01 (decide_eq_true (by omega)) (z01 (z0B hi) (z04 (z9q _ _) (z00 (by simpa using hp) ?_)));show some (0,[D.int (IntKind.wrap .i64 ((i:Int)+1))])=_;rw[z0P hi (by rw[z0c]; omega)]) (by
  intro i hi hp;rw[z0E hi]at hp;have e0:(gd [D.int (i:Int)] 0).i=(i:Int):=rfl;have hg:gd (D.lst (xs.map Rec.d)).l i=xs[i].d:=z5A hi;simp only[e0,Int.toNat_natCast,hg];exact z01 (decide_eq_true (by omega)) (z01 (z0B hi) (z04 (z9q _ _) (z01 (by simpa using hp) rfl)))) (by exact z00 (by simp) rfl)
 rcases hf with ⟨hall,h⟩ | ⟨k,hk,hp,hall,h⟩
 ·refine .inr ⟨z8o h (z8p rfl),fun i hi=>?_⟩;have:=hall i hi;rw[z0E hi]at this;simpa using this
 ·refine .inl ⟨k,hk,z06 h rfl,?_,fun i hi hik=>?_⟩
  ·rw[z0E hk]at hp; simpa using hp
  ·have:=hall i hik;rw[z0E hi]at this;simpa using this
theorem zKX {xs:List Rec} {x:Rec} (h:∀i (hi:i<xs.length),same x xs[i]=false):z7H xs x=xs:=by
 unfold z7H
 rw[List.filter_eq_self]
 intro r hr
 obtain⟨i,hi,rfl⟩:=List.getElem_of_mem hr
 rw[h i hi]; rfl
structure Cmpt (xs:List Rec) (x:Rec) (j:Nat) (s:List D×Nat):Prop where
 len:s.1.length=xs.length
 done:s.1.take s.2=(z7H (xs.take j) x).map Rec.d
 cnt:s.2=(z7H (xs.take j) x).length
 rest:s.1.drop j=(xs.map Rec.d).drop j
theorem zKe {xs:List Rec} {x:Rec} (hl:xs.length<=1000000):z0C.F [.lst (xs.map Rec.d),.pair x.d .unit]=some (.lst ((z7H xs x).map Rec.d)):=by
 have hlim:lim=1048576:=rfl
 have hx0:(D.pair x.d .unit).fld 0=x.d:=rfl
 rw[z2g,hx0]
 rcases zR9 (x:=x) hl with ⟨k,hk,hidx,hks,hkn⟩ | ⟨hidx,hall⟩
 ·refine z03 hidx (z05 (by simp) ?_);have hdk:z7H (xs.take k) x=xs.take k:=zKX fun i hi=>by
   rw[List.length_take]at hi;rw[List.getElem_take];exact hkn i (by omega) (by omega)
  have hdk1:z7H (xs.take (k+1)) x=xs.take k:=by rw[drop_take hk,hdk,if_pos hks,List.append_nil]
  have hw:IntKind.wrap .i64 ((D.int (k:Int)).i+1)=((k+1:Nat):Int):=z0P hk (by rw[z0c]; omega);rw[hw];obtain⟨⟨l,c⟩,hI,hloop⟩:=zRS (f:=fun l3=>
   if (decide ((gd l3 2).i<((gd l3 0).l.length:Int)))then
    (if (inb (gd l3 2).i (gd l3 0).l.length)then
      (z1q.F [(gd (gd l3 0).l (gd l3 2).i.toNat),x.d]).bind fun r6=>
      if (!r6.b)then
       if (inb (gd l3 1).i (gd l3 0).l.length)then
       ou 0 [(D.lst ((gd l3 0).l.set (gd l3 1).i.toNat (gd (gd l3 0).l (gd l3 2).i.toNat))),(.int (IntKind.wrap .i64 ((gd l3 1).i+1)))]
       else none
      else
       ou 0 [(gd l3 0),(gd l3 1)]
      else none).bind fun o6=>
    sel2 o6.1 (ou 0 [(gd o6.2 0),(gd o6.2 1),(.int (IntKind.wrap .i64 ((gd l3 2).i+1)))]) fun _=>none
   else
    ou 1 [(gd l3 0),(gd l3 1)]) (l:=[.lst (xs.map Rec.d),.int (k:Int),.int ((k+1:Nat):Int)]) (fun m (s:List D×Nat)=>[.lst s.1,.int (s.2:Int),.int ((k+1+m:Nat):Int)]) (fun m s=>Cmpt xs x (k+1+m) s) (xs.length-(k+1)) (t:=0) (out:=fun s=>[.lst s.1,.int (s.2:Int)]) (xs.map Rec.d,k) rfl
   ⟨by simp,by rw[Nat.add_zero,hdk1,List.map_take],by rw[Nat.add_zero,hdk1,List.length_take]; simp only; omega,by simp⟩ (by
   rintro m ⟨l,c⟩ hm ⟨h1,h2,h3,h4⟩;simp only at h1 h2 h3 h4;have hj:k+1+m<xs.length:=by omega
   have hcl:c<=k+1+m:=by
    rw[h3];have:=zBV (xs.take (k+1+m)) x;rw[List.length_take]at this; omega
   have e0:(gd [D.lst l,D.int (c:Int),D.int ((k+1+m:Nat):Int)] 0).l=l:=rfl;have e0':gd [D.lst l,D.int (c:Int),D.int ((k+1+m:Nat):Int)] 0=.lst l:=rfl;have e1:(gd [D.lst l,D.int (c:Int),D.int ((k+1+m:Nat):Int)] 1).i=(c:Int):=rfl;have e1':gd [D.lst l,D.int (c:Int),D.int ((k+1+m:Nat):Int)] 1=.int (c:Int):=rfl;have e2:(gd [D.lst l,D.int (c:Int),D.int ((k+1+m:Nat):Int)] 2).i=((k+1+m:Nat):Int):=rfl;have hg:gd l (k+1+m)=xs[k+1+m].d:=by
    have h5:=congrArg (fun q:List D=>q.getD 0 .unit) h4;simp only[List.getD_eq_getElem?_getD,List.getElem?_drop,Nat.add_zero,List.getElem?_map,List.getElem?_eq_getElem hj]at h5;unfold gd;rw[List.getD_eq_getElem?_getD,h5]; rfl
   have hw2:IntKind.wrap .i64 (((k+1+m:Nat):Int)+1)=((k+1+(m+1):Nat):Int):=z0P hj (by rw[z0c]; omega);have hdt:=drop_take (x:=x) hj;have hdrop:∀y:D,(l.set c y).drop (k+1+(m+1))=(xs.map Rec.d).drop (k+1+(m+1)):=by
    intro y;rw[List.drop_set,if_pos (by omega),show k+1+(m+1)=(k+1+m)+1 by omega,<- List.drop_drop,h4,List.drop_drop]
   have hdrop0:l.drop (k+1+(m+1))=(xs.map Rec.d).drop (k+1+(m+1)):=by
    rw[show k+1+(m+1)=(k+1+m)+1 by omega,<- List.drop_drop,h4,List.drop_drop]
   simp only[e0',e1',e2,D.l_lst,D.i_int,Int.toNat_natCast,hg,h1]
   cases hs:same x xs[k+1+m]with
   | true=>
     refine⟨(l,c),z01 (decide_eq_true (by omega)) (z0b (l:=[.lst l,.int (c:Int)]) (z01 (z0B hj) (z04 (z9q _ _) (z00 (by simp[hs]) rfl))) ?_),⟨h1,?_,?_,hdrop0⟩⟩
     ·show some (0,[D.lst l,D.int (c:Int),D.int (IntKind.wrap .i64 (((k+1+m:Nat):Int)+1))])=_;rw[hw2]
     ·show l.take c=_;rw[show k+1+(m+1)=(k+1+m)+1 by omega,hdt,if_pos hs,List.append_nil,h2]
     ·show c=_;rw[show k+1+(m+1)=(k+1+m)+1 by omega,hdt,if_pos hs,List.append_nil,h3]
   | false=>
     have hcw:IntKind.wrap .i64 ((c:Int)+1)=((c+1:Nat):Int):=z0P (show c<xs.length by omega) (by rw[z0c]; omega);refine⟨(l.set c xs[k+1+m].d,c+1),z01 (decide_eq_true (by omega)) (z0b (l:=[.lst (l.set c xs[k+1+m].d),.int ((c+1:Nat):Int)]) (z01 (z0B hj) (z04 (z9q _ _) (z01 (by simp[hs]) (z01 (z0B (by omega)) ?_)))) ?_),⟨by simp[h1],?_,?_,hdrop _⟩⟩
     ·show some (0,[D.lst (l.set c xs[k+1+m].d),D.int (IntKind.wrap .i64 ((c:Int)+1))])=_;rw[hcw]
     ·show some (0,[D.lst (l.set c xs[k+1+m].d),D.int ((c+1:Nat):Int),D.int (IntKind.wrap .i64 (((k+1+m:Nat):Int)+1))])=_;rw[hw2]
     ·show(l.set c xs[k+1+m].d).take (c+1)=_;rw[show k+1+(m+1)=(k+1+m)+1 by omega,hdt,if_neg (by rw[hs]; simp),List.map_append,<- h2];have hcl2:c<l.length:=by omega
      rw[List.take_add_one,List.getElem?_set_self hcl2,List.take_set_of_le (Nat.le_refl _)];rfl
     ·show c+1=_;rw[show k+1+(m+1)=(k+1+m)+1 by omega,hdt,if_neg (by rw[hs]; simp),List.length_append,h3]; rfl) (by
   rintro⟨l,c⟩ ⟨h1,_,_,_⟩;simp only at h1;refine z00 ?_ rfl;show ¬decide (((k+1+(xs.length-(k+1)):Nat):Int)<((l.length:Nat):Int))=true;rw[h1];simp; omega)
  obtain⟨h1,h2,h3,_⟩:=hI;simp only at h1 h2 h3;rw[show k+1+(xs.length-(k+1))=xs.length by omega,List.take_length]at h2 h3;have hc:c<=xs.length:=by rw[h3]; exact zBV _ _
  refine z06 hloop ?_;have g0:(gd [D.lst l,D.int (c:Int)] 0).l=l:=rfl;have g1:(gd [D.lst l,D.int (c:Int)] 1).i=(c:Int):=rfl;simp only[g0,g1,Int.toNat_natCast,Nat.sub_zero,List.drop_zero,h1];have ht:(l.take c).length=c:=by rw[List.length_take]; omega
  refine z0G (by simp[slOk]; omega) (z0G (by simp[winOk]; omega) (z0G ?_ (z0G ?_ ?_)))
  ·simp[slOk]; omega
  ·simp[winOk]; omega
  ·rw[List.append_assoc,List.take_append_of_le_length (by omega),List.take_of_length_le (by omega),h2]; rfl
 ·rw[zKX hall];exact z03 hidx (z0G rfl rfl)
end Go.Proofs.YtilejnnnkfjmmaaGreatDoor
namespace Go.Proofs.YtilejnnnkfjmmaaGreatDoor
open Go Go.Own
def chgD (p:Int×Rec):D:=.pair (.int p.1) (.pair p.2.d .unit)
theorem zKr {l:List (Int×Rec)} {i:Nat} (h:i<l.length):gd (l.map chgD) i=chgD l[i]:=z7L h
def z8z (p:Int×Rec):Bool:=inP p.1 1 4&&(p.2.ok && !(p.2.type==6))
def batB (l:List (Int×Rec)):Bool:=l.all z8z&&decide (l.length<=12)
theorem zT0 (p:Int×Rec):(if (!inP p.1 1 4)=true then ou 0 [.bool true]else(some (.bool p.2.ok)).bind fun r2:D=>if (!r2.b)=true then ou 0 [.bool true]else ou 0 [.bool (p.2.type==6)]:Outc)=some (0,[.bool !(z8z p)]):=by
 unfold z8z
 cases inP p.1 1 4 <;> cases p.2.ok <;> simp[ou]
theorem zIr {p:Int×Rec} (hp:p.2.In lim):z1W.F [chgD p]=some (.bool !(z8z p)):=by
 rw[z7U]
 have f0:(chgD p).fld 0=.int p.1:=rfl
 have f1:(chgD p).fld 1=p.2.d:=rfl
 have f11:(p.2.d.fld 1).i=p.2.type:=rfl
 rw[f0,f1,f11]
 refine z06 (l:=[.bool !(z8z p)]) (z04 (z4u p.1 1 4) ?_) rfl
 rw[zBW hp]
 exact zT0 p
theorem zKc {l:List (Int×Rec)} (hl:l.length<=lim) (hx:∀p∈l,p.2.In lim):z1w.F [.lst (l.map chgD)]=some (.bool (batB l)):=by
 have hsm:=Nat.le_trans hl z1I
 have hlen:(D.lst (l.map chgD)).l.length=l.length:=by simp
 rw[z8P,hlen]
 refine z06 (l:=[.bool (batB l)]) ?_ rfl
 unfold batB
 by_cases h12:l.length<=12
 ·obtain⟨n,h1,h2⟩:=zFy (f:=chgD) (c:=fun d=>z1W.F [d]) (xs:=l) (p:=fun p=>!(z8z p)) hsm (fun p hp=>zIr (hx p hp));have hi:z0F.F [.lst (l.map chgD),.unit]=some (.int n):=by
   rw[z15]; exact h1
  have hc:z0D.F [.lst (l.map chgD),.unit]=some (.bool (l.any fun p=>!(z8z p))):=by
   rw[z0x];refine z03 hi ?_;rw[<- h2]; rfl
  refine z01 (decide_eq_true (by omega)) (z04 hc ?_);rw[decide_eq_true h12,Bool.and_true];have:(!(l.any fun p=>!(z8z p)))=l.all z8z:=by rw[List.not_any_eq_all_not]; simp
  show some (0,[D.bool (!(l.any fun p=>!(z8z p)))])=_;rw[this]
 ·rw[decide_eq_false h12,Bool.and_false];exact z00 (by simp; omega) rfl
theorem zON {l:List (Int×Rec)} (hl:l.length<=lim) (hx:∀p∈l,p.2.In lim):z3E.F [.lst (l.map chgD)]=some (.bool (batB l)):=by
 have hsm:=Nat.le_trans hl z1I
 have hlen:(D.lst (l.map chgD)).l.length=l.length:=by simp
 rw[zAe,hlen]
 refine z0L (z38 (fun i=>[.int i]) l.length (fun i=>z8z (l.getD i (0,Rec.nul))) (t1:=0) (t2:=1) (o1:=[]) (o2:=[]) rfl ?_ ?_) ?_
 ·intro i hi;have hg:gd (D.lst (l.map chgD)).l i=chgD l[i]:=zKr hi;have e0:(gd [D.int (i:Int)] 0).i=(i:Int):=rfl;have f0:(chgD l[i]).fld 0=.int l[i].1:=rfl;have f1:(chgD l[i]).fld 1=l[i].2.d:=rfl;have f11:(l[i].2.d.fld 1).i=l[i].2.type:=rfl;simp only[e0,Int.toNat_natCast,hg,f0,f1,f11,z0E hi];refine z01 (decide_eq_true (by omega)) (z01 (z0B hi) (z0b (l:=[.bool !(z8z l[i])]) (z04 (z7J l[i].1 1 4) ?_) ?_))
  ·rw[z9r (hx _ (List.getElem_mem hi))];exact zT0 l[i]
  ·cases z8z l[i]with
   | true=>
     refine z00 (by simp) ?_;rw[z0P hi hsm]; rfl
   | false=>exact z01 rfl rfl
 ·exact z00 (by simp) rfl
 ·have hall:allN l.length (fun i=>z8z (l.getD i (0,Rec.nul)))=l.all z8z:=z4v l z8z (0,Rec.nul);rw[hall];unfold batB
  cases l.all z8z with
  | false=>rfl
  | true=>simp; omega
def zG8 (xs:List Rec) (p:Int×Rec):Bool:=(p.1==3 && !(z6P xs p.2.name p.2.type))||(p.1==4&&z6P xs p.2.name p.2.type)
theorem zPz (k:Int) (b:Bool):(if (k==3)=true then if (!b)=true then ou 0 [.bool true]else if (k==4)=true then ou 0 [.bool b]else ou 0 [.bool false]else if (k==4)=true then ou 0 [.bool b]else ou 0 [.bool false]:Outc)=some (0,[.bool ((k==3 && !b)||(k==4&&b))]):=by
 cases b <;> by_cases h3:(k==3)=true <;> by_cases h4:(k==4)=true <;> simp[h3,h4,ou]
theorem zJM {xs:List Rec} {n:List UInt8} {k:Int} (hk:k≠0):decide (0<(xs.filter (isAt n k)).length)=z6P xs n k:=by
 rw[Bool.eq_iff_iff,decide_eq_true_iff]
 unfold z6P
 rw[List.any_eq_true]
 constructor
 ·intro h;obtain⟨r,hr⟩:=List.exists_mem_of_length_pos h;obtain⟨h1,h2⟩:=List.mem_filter.1 hr;refine⟨r,h1,?_⟩;unfold isAt at h2;simp[hk]at h2;simp[h2]
 ·rintro⟨r,h1,h2⟩;refine List.length_pos_of_mem (a:=r) (List.mem_filter.2 ⟨h1,?_⟩);unfold isAt;simp only[Bool.and_eq_true,beq_iff_eq]at h2;simp[h2.1,h2.2]
theorem zRD {z:Zn} {p:Int×Rec} (hz:z.In lim) (hp:p.2.ok=true):z5u.F [z.d,chgD p]=some (.bool (zG8 z.recs p)):=by
 rw[zJj]
 have z2:z.d.fld 2=.lst (z.recs.map Rec.d):=rfl
 have f0:((chgD p).fld 0).i=p.1:=rfl
 have f1:(chgD p).fld 1=p.2.d:=rfl
 have f10:p.2.d.fld 0=.str p.2.name:=rfl
 have f11:p.2.d.fld 1=.int p.2.type:=rfl
 rw[z2,f0,f1,f10,f11]
 refine z03 (f_at hz.len) (z06 (l:=[.bool (zG8 z.recs p)]) ?_ rfl)
 have:decide ((((D.lst ((z.recs.filter (isAt p.2.name p.2.type)).map Rec.d)).l.length:Nat):Int) > 0)=z6P z.recs p.2.name p.2.type:=by
  rw[<- zJM (zQo hp)];rw[D.l_lst,List.length_map];rw[Bool.eq_iff_iff,decide_eq_true_iff,decide_eq_true_iff]; omega
 rw[this]
 exact zPz p.1 _
theorem zSZ {z:Zn} {l:List (Int×Rec)} (hz:z.In lim) (hl:l.length<=lim) (hp:∀p∈l,p.2.ok=true):z0Q.F [.lst (l.map chgD),.pair z.d .unit]=some (.bool (l.any (zG8 z.recs))):=by
 have hsm:=Nat.le_trans hl z1I
 have hz0:(D.pair z.d .unit).fld 0=z.d:=rfl
 obtain⟨n,h1,h2⟩:=zFy (f:=chgD) (c:=fun d=>z4h.F [d,z.d]) (xs:=l) (p:=zG8 z.recs) hsm (fun p h=>by
  show z4h.F [chgD p,z.d]=_;rw[zHp];exact z03 (zRD hz (hp p h)) rfl)
 have hi:z0V.F [.lst (l.map chgD),.pair z.d .unit]=some (.int n):=by
  rw[z2x,hz0]; exact h1
 rw[z2f]
 refine z03 hi ?_
 rw[<- h2]; rfl
theorem zAl {xs:List D} (h:xs.length<=lim):z0M.F [.lst xs]=some (.lst xs):=by
 rw[z55]
 have ha:appOk 48 ([]:List D) (D.lst xs).l=true:=z1F (by simp) h (by decide)
 rw[zSD]
 ·refine z0G ha rfl
 ·intro h;rw[if_pos ha];have:xs=[]:=by simpa using h
  subst this;rfl
theorem zPE {l:List (Int×Rec)} (hl:l.length<=1000) (hx:∀p∈l,p.2.In lim) (hok:∀p∈l,p.2.ok=true):∀(m i:Nat) (xs:List Rec),m+i=l.length->Rises xs->xs.length<=100+i->(∀x∈xs,x.In lim) ->
 ∃ys:List Rec,Rises ys/\ys.length<=100+l.length/\(∀y∈ys,y.In lim)/\z0d (fun l3=>
  if (decide ((gd l3 1).i<(l.length:Int)))then
   (if (inb (gd l3 1).i l.length)then
     (if (((gd (l.map chgD) (gd l3 1).i.toNat).fld 0).i != 1)then
         ou 0 [(.bool (((gd (l.map chgD) (gd l3 1).i.toNat).fld 0).i != 2))]
       else
        ou 0 [(.bool false)]).bind fun o5=>
     sel2 o5.1 (if (gd o5.2 0).b then
      ou 0 [(gd l3 0)]
      else
       (z0C.F [(gd l3 0),(.pair ((gd (l.map chgD) (gd l3 1).i.toNat).fld 1) .unit)]).bind fun r6=>
       if (((gd (l.map chgD) (gd l3 1).i.toNat).fld 0).i==1)then
        (z6O.F [r6,((gd (l.map chgD) (gd l3 1).i.toNat).fld 1)]).bind fun r7=>
        ou 0 [r7]
       else
        ou 0 [r6]) fun _=>none
     else none).bind fun o5=>
   sel2 o5.1 (ou 0 [(gd o5.2 0),(.int (IntKind.wrap .i64 ((gd l3 1).i+1)))]) fun _=>none
  else
   ou 1 [(gd l3 0)]) [.lst (xs.map Rec.d),.int (i:Int)]=some (0,[.lst (ys.map Rec.d)]) /\
  z0d (fun l4=>
   if (decide ((gd l4 1).i<(l.length:Int)))then
    (if (inb (gd l4 1).i l.length)then
      if (((gd (l.map chgD) (gd l4 1).i.toNat).fld 0).i==2)then
       (z1r.F [(gd l4 0),((gd (l.map chgD) (gd l4 1).i.toNat).fld 1)]).bind fun r6=>
       ou 0 [r6]
      else
       if (((gd (l.map chgD) (gd l4 1).i.toNat).fld 0).i==1)then
        (z1r.F [(gd l4 0),((gd (l.map chgD) (gd l4 1).i.toNat).fld 1)]).bind fun r6=>
        (z4G.F [r6,((gd (l.map chgD) (gd l4 1).i.toNat).fld 1)]).bind fun r7=>
        ou 0 [r7]
       else
        ou 0 [(gd l4 0)]
      else none).bind fun o6=>
    sel2 o6.1 (ou 0 [(gd o6.2 0),(.int (IntKind.wrap .i64 ((gd l4 1).i+1)))]) fun _=>none
   else
    ou 1 [(gd l4 0)]) [.lst (xs.map Rec.d),.int (i:Int)]=some (0,[.lst (ys.map Rec.d)]):=by
 intro m
 induction m with
 | zero=>
   intro i xs hi hR hlx hin;have:i=l.length:=by omega
   subst this;exact⟨xs,hR,hlx,hin,z1B (z00 (by simp) rfl),z1B (z00 (by simp) rfl)⟩
 | succ m ih=>
   intro i xs hi hR hlx hin;have hil:i<l.length:=by omega
   have hg:gd (l.map chgD) i=chgD l[i]:=zKr hil;have f0:((chgD l[i]).fld 0).i=l[i].1:=rfl;have f1:(chgD l[i]).fld 1=l[i].2.d:=rfl;have hpi:=hx _ (List.getElem_mem hil);have hpo:=hok _ (List.getElem_mem hil);have hw:IntKind.wrap .i64 ((i:Int)+1)=((i+1:Nat):Int):=z0P hil (by rw[z0c]; omega);have hd:=zKe (xs:=xs) (x:=l[i].2) (by omega);have hds:=zRB (xs:=xs) (x:=l[i].2) (by omega);have hdr:=zMM l[i].2 hR;have hdl:=zBV xs l[i].2;have hdi:∀x∈z7H xs l[i].2,x.In lim:=fun x h=>hin x (zKY h)
   -- one step
   have step:∃s:List Rec,Rises s/\s.length<=100+(i+1)/\(∀y∈s,y.In lim) /\
    ((if (l[i].1 != 1)=true then ou 0 [(.bool (l[i].1 != 2))]else ou 0 [(.bool false)]:Outc).bind fun o5=>sel2 o5.1 (if (gd o5.2 0).b=true then ou 0 [.lst (xs.map Rec.d)]else
       (z0C.F [.lst (xs.map Rec.d),(.pair l[i].2.d .unit)]).bind fun r6=>if (l[i].1==1)=true then(z6O.F [r6,l[i].2.d]).bind fun r7=>ou 0 [r7]else ou 0 [r6]) fun _=>none)=some (0,[.lst (s.map Rec.d)]) /\
    (if (l[i].1==2)=true then(z1r.F [.lst (xs.map Rec.d),l[i].2.d]).bind fun r6=>ou 0 [r6]else if (l[i].1==1)=true then(z1r.F [.lst (xs.map Rec.d),l[i].2.d]).bind fun r6=>(z4G.F [r6,l[i].2.d]).bind fun r7=>ou 0 [r7]else ou 0 [.lst (xs.map Rec.d)]:Outc)=some (0,[.lst (s.map Rec.d)]):=by
    by_cases k1:l[i].1=1
    ·obtain⟨ys,h1,h2,h3,h4,h5⟩:=zTc hdr (by omega) hdi hpi hpo;refine⟨ys,h3,by omega,fun y hy=>?_,?_,?_⟩
     ·rcases h5 y hy with rfl | h
      ·exact hpi
      ·exact hdi y h
     ·exact z0b (l:=[.bool false]) (z00 (by simp[k1]) rfl) (z00 (by simp) (z04 hd (z01 (by simp[k1]) (z04 h1 rfl))))
     ·exact z00 (by simp[k1]) (z01 (by simp[k1]) (z04 hds (z04 h2 rfl)))
    ·by_cases k2:l[i].1=2
     ·refine⟨z7H xs l[i].2,hdr,by omega,hdi,?_,?_⟩
      ·exact z0b (l:=[.bool false]) (z01 (by simp[k2]) (by simp[k2])) (z00 (by simp) (z04 hd (z00 (by simp[k2]) rfl)))
      ·exact z01 (by simp[k2]) (z04 hds rfl)
     ·refine⟨xs,hR,by omega,hin,?_,?_⟩
      ·exact z0b (l:=[.bool true]) (z01 (by simp[k1]) (by simp[k2])) (z01 rfl rfl)
      ·exact z00 (by simp[k2]) (z00 (by simp[k1]) rfl)
   obtain⟨s,s1,s2,s3,s4,s5⟩:=step;obtain⟨ys,y1,y2,y3,y4,y5⟩:=ih (i+1) s (by omega) s1 s2 s3;refine⟨ys,y1,y2,y3,?_,?_⟩
   ·rw[<- y4];refine z1m ?_;have e0:gd [D.lst (xs.map Rec.d),D.int (i:Int)] 0=.lst (xs.map Rec.d):=rfl;have e1:(gd [D.lst (xs.map Rec.d),D.int (i:Int)] 1).i=(i:Int):=rfl;simp only[e0,e1,Int.toNat_natCast,hg,f0,f1,hw];exact z01 (decide_eq_true (by omega)) (z0b (l:=[.lst (s.map Rec.d)]) (z01 (z0B hil) s4) rfl)
   ·rw[<- y5];refine z1m ?_;have e0:gd [D.lst (xs.map Rec.d),D.int (i:Int)] 0=.lst (xs.map Rec.d):=rfl;have e1:(gd [D.lst (xs.map Rec.d),D.int (i:Int)] 1).i=(i:Int):=rfl;simp only[e0,e1,Int.toNat_natCast,hg,f0,f1,hw];exact z01 (decide_eq_true (by omega)) (z0b (l:=[.lst (s.map Rec.d)]) (z01 (z0B hil) s5) rfl)
end Go.Proofs.YtilejnnnkfjmmaaGreatDoor
namespace Go.Proofs.YtilejnnnkfjmmaaGreatDoor
open Go Go.Own
theorem zSo {α:Type} {A B:List α} {x y:α} {i:Nat} (h:i=A.length):(A++x::B).set i y=A++y::B:=by
 subst h; simp
theorem zTB {A B:List D} {x:D} {i:Nat} (h:i=A.length):gd (A++x::B) i=x:=by
 subst h; unfold gd; simp
theorem zPc {z:Zn} (h:z.recs.length<=lim):z2o.F [z.d]=some z.d:=by
 have f2:z.d.fld 2=.lst (z.recs.map Rec.d):=rfl
 rw[zLa,f2]
 exact z0G (z1F (by simp) (by simpa using h) (by decide)) rfl
def cntF (c:Int) (r:Rec):Rec:=if r.type=6 then⟨r.name,r.type,r.ttl,Lib.itoa (c % 4294967296)⟩else r
theorem zSJ {c:Int} {r:Rec} (h:r.In lim):(cntF c r).In lim:=by
 have hp18:(10:Int) ^ 18=1000000000000000000:=by decide
 unfold cntF
 split
 ·have:=z3U (v:=c % 4294967296) (by omega) (by omega);have hlim:lim=1048576:=rfl;exact⟨h.name,by show(Lib.itoa (c % 4294967296)).length<=lim; omega⟩
 ·exact h
theorem zPX {ys:List Rec} {c:Int} (hl:ys.length<=1000) (hc:inP c 0 1152921504606846976=true):z5E.F [.lst (ys.map Rec.d),.int c]=some (.lst ((ys.map (cntF c)).map Rec.d)):=by
 have hlim:lim=1048576:=rfl
 rw[zHr]
 refine z03 (zAl (by simp; omega)) ?_
 have hlen:(D.lst (ys.map Rec.d)).l.length=ys.length:=by simp
 rw[hlen]
 refine z06 (l:=[.lst ((ys.map (cntF c)).map Rec.d)]) (z2Q (fun i (s:List D)=>[.lst s,.int (i:Int)]) ys.length (fun i=>((ys.take i).map (cntF c)).map Rec.d++(ys.drop i).map Rec.d) (t:=0) (by simp) ?_ ?_) rfl
 ·intro i hi;have hA:i=(((ys.take i).map (cntF c)).map Rec.d).length:=by simp; omega
  have hmid:((ys.take i).map (cntF c)).map Rec.d++(ys.drop i).map Rec.d=((ys.take i).map (cntF c)).map Rec.d++ys[i].d::(ys.drop (i+1)).map Rec.d:=by
   rw[List.drop_eq_getElem_cons hi]; rfl
  have hnext:((ys.take (i+1)).map (cntF c)).map Rec.d++(ys.drop (i+1)).map Rec.d=((ys.take i).map (cntF c)).map Rec.d++(cntF c ys[i]).d::(ys.drop (i+1)).map Rec.d:=by
   rw[List.take_add_one,List.getElem?_eq_getElem hi,List.map_append,List.map_append,List.append_assoc]; rfl
  have hll:(((ys.take i).map (cntF c)).map Rec.d++ys[i].d::(ys.drop (i+1)).map Rec.d).length=ys.length:=by simp; omega
  rw[hmid,hnext];have hg:gd (((ys.take i).map (cntF c)).map Rec.d++ys[i].d::(ys.drop (i+1)).map Rec.d) i=ys[i].d:=zTB hA;have hs:∀y:D,(((ys.take i).map (cntF c)).map Rec.d++ys[i].d::(ys.drop (i+1)).map Rec.d).set i y=((ys.take i).map (cntF c)).map Rec.d++y::(ys.drop (i+1)).map Rec.d:=fun y=>zSo hA;generalize ((ys.take i).map (cntF c)).map Rec.d++ys[i].d::(ys.drop (i+1)).map Rec.d=L at hg hs hll;have e0:gd [D.lst L,D.int (i:Int)] 0=.lst L:=rfl;have e1:(gd [D.lst L,D.int (i:Int)] 1).i=(i:Int):=rfl;have f1:(ys[i].d.fld 1).i=ys[i].type:=rfl;simp only[e0,e1,D.l_lst,Int.toNat_natCast,hg,f1,hll,upd];refine z01 (decide_eq_true (by omega)) (z0b (l:=[.lst (L.set i (cntF c ys[i]).d)]) (z01 (z0B hi) ?_) ?_)
  ·unfold cntF;by_cases h6:ys[i].type=6
   ·rw[if_pos h6];refine z01 (by simp[h6]) (z04 (zDm hc) ?_);rfl
   ·rw[if_neg h6];refine z00 (by simpa using h6) ?_;have:L.set i ys[i].d=L:=by
     have hiL:i<L.length:=by omega
     have:ys[i].d=L[i]:=by rw[<- hg]; unfold gd; rw[List.getD_eq_getElem?_getD,List.getElem?_eq_getElem hiL]; rfl
     rw[this,List.set_getElem_self]
    rw[this]
  ·show some (0,[D.lst (L.set i (cntF c ys[i]).d),D.int (IntKind.wrap .i64 ((i:Int)+1))])=_;rw[hs,z0P hi (by rw[z0c]; omega)]
 ·refine z00 (by simp) ?_;simp only[List.take_length,List.drop_length,List.map_nil,List.append_nil];rfl
theorem zPV {z:Zn} {l:List (Int×Rec)} (hz:z.In lim) (hR:Rises z.recs) (h40:z.recs.length<=40) (hl:l.length<=1000) (hx:∀p∈l,p.2.In lim) (hok:∀p∈l,p.2.ok=true) :
 ∃ys:List Rec,Rises ys/\ys.length<=100+l.length/\(∀y∈ys,y.In lim)/\z5D.F [.lst (z.recs.map Rec.d),.lst (l.map chgD)]=some (.lst (ys.map Rec.d)) /\
  z0d (fun l4=>
   if (decide ((gd l4 1).i<(l.length:Int)))then
    (if (inb (gd l4 1).i l.length)then
      if (((gd (l.map chgD) (gd l4 1).i.toNat).fld 0).i==2)then
       (z1r.F [(gd l4 0),((gd (l.map chgD) (gd l4 1).i.toNat).fld 1)]).bind fun r6=>
       ou 0 [r6]
      else
       if (((gd (l.map chgD) (gd l4 1).i.toNat).fld 0).i==1)then
        (z1r.F [(gd l4 0),((gd (l.map chgD) (gd l4 1).i.toNat).fld 1)]).bind fun r6=>
        (z4G.F [r6,((gd (l.map chgD) (gd l4 1).i.toNat).fld 1)]).bind fun r7=>
        ou 0 [r7]
       else
        ou 0 [(gd l4 0)]
      else none).bind fun o6=>
    sel2 o6.1 (ou 0 [(gd o6.2 0),(.int (IntKind.wrap .i64 ((gd l4 1).i+1)))]) fun _=>none
   else
    ou 1 [(gd l4 0)]) [.lst (z.recs.map Rec.d),.int 0]=some (0,[.lst (ys.map Rec.d)]):=by
 have hlim:lim=1048576:=rfl
 obtain⟨ys,y1,y2,y3,y4,y5⟩:=zPE hl hx hok l.length 0 z.recs (by omega) hR (by omega) hz.all
 refine⟨ys,y1,y2,y3,?_,y5⟩
 rw[zHq]
 refine z03 (zAl (by simp; omega)) ?_
 have hlen:(D.lst (l.map chgD)).l.length=l.length:=by simp
 have hll:(D.lst (l.map chgD)).l=l.map chgD:=rfl
 rw[hlen]
 simp only[hll]
 exact z06 y4 rfl
def znZ:D:=.pair (.str []) (.pair (.int 0) (.pair (D.lst []) .unit))
theorem zST {z:Zn} {l:List (Int×Rec)} (hz:z.In lim) (hg:z.Good) (hl:l.length<=lim) (hx:∀p∈l,p.2.In lim) :
 ∃(z':Zn) (n:Int),z'.In lim/\z'.recs.length<=40/\inP n 0 4=true/\z5f.F [z.d,.lst (l.map chgD)]=some (.pair (if n=0 then z'.d else znZ) (.pair (.int n) .unit))/\z3H.F [z.d,.lst (l.map chgD)]=some (.pair (if n=0 then z'.d else z.d) (.pair (.int n) .unit)) /\
  (n=0->z'.apex=z.apex/\z'.counter=z.counter+1/\z.counter≠1152921504606846976/\∃ys,z'.recs=ys.map (cntF (z.counter+1))/\Rises ys/\RuleS z.apex ys/\ys.length<=40):=by
 have hlim:lim=1048576:=rfl
 have z0:z.d.fld 0=.str z.apex:=rfl
 have z1:z.d.fld 1=.int z.counter:=rfl
 have z2:z.d.fld 2=.lst (z.recs.map Rec.d):=rfl
 have hlen:(D.lst (l.map chgD)).l.length=l.length:=by simp
 have hll:(D.lst (l.map chgD)).l=l.map chgD:=rfl
 have hown:=zPc hz.len
 have hgz:=zAT hz
 rw[Zn.good_iff.2 hg]at hgz
 have h40:=hg.n40
 have hC:=zKc hl hx
 have hB:=zON hl hx
 rw[zLU,zDN]
 cases hb:batB l with
 | false=>
   rw[hb]at hC hB;exact⟨z,1,hz,h40,by decide,z03 hC (z0G rfl rfl),z03 hgz (z05 (by simp) (z03 hB (z0G rfl (z03 hown rfl)))),by simp⟩
 | true=>
   rw[hb]at hC hB;unfold batB at hb;simp only[Bool.and_eq_true,decide_eq_true_eq,List.all_eq_true]at hb;obtain⟨hbo,hb12⟩:=hb;have hok:∀p∈l,p.2.ok=true:=fun p hp=>by have:=hbo p hp; unfold z8z at this; simp only[Bool.and_eq_true]at this; exact this.2.1
   have hN:=zSZ hz hl hok;have hfind:=z65 (f:=fun l4=>
    if (decide ((gd l4 0).i<(l.length:Int)))then
     if (inb (gd l4 0).i l.length)then
     (z2H.F [(z.d.fld 2),(((gd (l.map chgD) (gd l4 0).i.toNat).fld 1).fld 0),(((gd (l.map chgD) (gd l4 0).i.toNat).fld 1).fld 1)]).bind fun r5=>
     (if (((gd (l.map chgD) (gd l4 0).i.toNat).fld 0).i==3)then
         if (!r5.b)then
          ou 0 [(.bool true)]
         else
          if (((gd (l.map chgD) (gd l4 0).i.toNat).fld 0).i==4)then
           ou 0 [r5]
          else
           ou 0 [(.bool false)]
       else
        if (((gd (l.map chgD) (gd l4 0).i.toNat).fld 0).i==4)then
         ou 0 [r5]
        else
         ou 0 [(.bool false)]).bind fun o6=>
     sel2 o6.1 (if (gd o6.2 0).b then
      (z2o.F [z.d]).bind fun r7=>
      ou 1 [r7,(.int 2)]
      else
       ou 0 [(.int (IntKind.wrap .i64 ((gd l4 0).i+1)))]) fun _=>none
     else none
    else
     ou 2 []) (l:=[.int 0]) (fun i=>[.int (i:Int)]) l.length (fun i=>!(zG8 z.recs (l.getD i (0,Rec.nul)))) (t1:=0) (t2:=1) (o1:=fun _=>[z.d,.int 2]) (o2:=[]) rfl (by
    intro i hi hp;rw[z0E hi]at hp;have e0:(gd [D.int (i:Int)] 0).i=(i:Int):=rfl;have hgg:gd (l.map chgD) i=chgD l[i]:=zKr hi;have f0:((chgD l[i]).fld 0).i=l[i].1:=rfl;have f10:((chgD l[i]).fld 1).fld 0=.str l[i].2.name:=rfl;have f11:((chgD l[i]).fld 1).fld 1=.int l[i].2.type:=rfl;simp only[e0,Int.toNat_natCast,hgg,f0,f10,f11,z2];have hm:zG8 z.recs l[i]=false:=by simpa using hp
    refine z01 (decide_eq_true (by omega)) (z01 (z0B hi) (z04 (zIw hz.len) (z0b (l:=[.bool (zG8 z.recs l[i])]) (zPz l[i].1 _) ?_)));rw[hm];refine z00 (by simp) ?_;rw[z0P hi (by rw[z0c]; omega)]) (by
    intro i hi hp;rw[z0E hi]at hp;have e0:(gd [D.int (i:Int)] 0).i=(i:Int):=rfl;have hgg:gd (l.map chgD) i=chgD l[i]:=zKr hi;have f0:((chgD l[i]).fld 0).i=l[i].1:=rfl;have f10:((chgD l[i]).fld 1).fld 0=.str l[i].2.name:=rfl;have f11:((chgD l[i]).fld 1).fld 1=.int l[i].2.type:=rfl;simp only[e0,Int.toNat_natCast,hgg,f0,f10,f11,z2];have hm:zG8 z.recs l[i]=true:=by simpa using hp
    refine z01 (decide_eq_true (by omega)) (z01 (z0B hi) (z04 (zIw hz.len) (z0b (l:=[.bool (zG8 z.recs l[i])]) (zPz l[i].1 _) ?_)));rw[hm];exact z01 rfl (z04 hown rfl)) (by exact z00 (by simp) rfl)
   rcases hfind with ⟨hall,hloop⟩ | ⟨k,hk,hmk,_,hloop⟩
   ·have hany:l.any (zG8 z.recs)=false:=by
     rw[List.any_eq_false];intro p hp;obtain⟨i,hi,rfl⟩:=List.getElem_of_mem hp;have:=hall i hi;rw[z0E hi]at this;simpa using this
    rw[hany]at hN;obtain⟨ys,y1,y2,y3,hI,hS⟩:=zPV hz (zJw hg.ris) h40 (by omega) hx hok;have hyl:(D.lst (ys.map Rec.d)).l.length=ys.length:=by simp
    have hcnt:=hg.cnt;have hcnt':=hcnt;simp only[inP,Bool.and_eq_true,decide_eq_true_eq]at hcnt';by_cases hfull:ys.length > 40\/z.counter=1152921504606846976
    ·have hj:(if (decide ((((D.lst (ys.map Rec.d)).l.length:Nat):Int) > 40))then ou 0 [(.bool true)]else ou 0 [(.bool ((D.int z.counter).i==1152921504606846976))]:Outc)=some (0,[.bool true]):=by
      rw[hyl];by_cases h:ys.length > 40
      ·exact z01 (decide_eq_true (by omega)) rfl
      ·refine z00 (fun h2=>h (by have:=of_decide_eq_true h2; omega)) ?_;rcases hfull with h2 | h2
       ·exact absurd h2 h
       ·rw[h2]; rfl
     refine⟨z,4,hz,h40,by decide,z03 hC (z05 (by simp) (z03 hN (z05 (by simp) (z03 (by rw[z2]; exact hI) (z06 (by rw[z1]; exact hj) (z0G rfl rfl)))))),?_,by simp⟩;refine z03 hgz (z05 (by simp) (z03 hB (z05 (by simp) ?_)));simp only[hll,List.length_map];refine z8o hloop (z8p (z0G (z1F (by simp) (by rw[z2]; simp; omega) (by decide)) ?_));rw[z2];exact z06 hS (z06 (by rw[z1]; exact hj) (z0G rfl (z03 hown rfl)))
    ·have h4:ys.length<=40:=by
      by_cases h:ys.length<=40
      ·exact h
      ·exact absurd (.inl (by omega)) hfull
     have hct:z.counter≠1152921504606846976:=fun h=>hfull (.inr h);have hj:(if (decide ((((D.lst (ys.map Rec.d)).l.length:Nat):Int) > 40))then ou 0 [(.bool true)]else ou 0 [(.bool ((D.int z.counter).i==1152921504606846976))]:Outc)=some (0,[.bool false]):=by
      rw[hyl];exact z00 (fun h2=>by have:=of_decide_eq_true h2; omega) (by simp[hct])
     have hwc:IntKind.wrap .i64 ((D.int z.counter).i+1)=z.counter+1:=by rw[D.i_int,z0f] <;> omega
     obtain⟨n1,r1,r1'⟩:=zNX (xs:=ys) hz.apex (by omega) y3;obtain⟨n2,r2,r2'⟩:=zNd (xs:=ys) hz.apex (by omega) y3;have hwhl:zHd z.apex ys=true:=by
      unfold zHd;rw[hg.apx,y1.rs,decide_eq_true h4]; rfl
     rw[hwhl]at r1';have hcc:inP (z.counter+1) 0 1152921504606846976=true:=by
      simp only[inP,Bool.and_eq_true,decide_eq_true_eq]; omega
     by_cases hr:RuleS z.apex ys
     ·have e1:n1=0:=r1'.2 ⟨rfl,(zF8 y1).2 hr⟩;have e2:n2=0:=r2'.2 hr;subst e1 e2
      let z':Zn:=⟨z.apex,z.counter+1,ys.map (cntF (z.counter+1))⟩
      have hz':z'.In lim:=⟨hz.apex,by show(ys.map _).length<=lim; rw[List.length_map]; omega,fun r hr=>by
       obtain⟨y,hy,rfl⟩:=List.mem_map.1 hr;exact zSJ (y3 y hy)⟩
      refine⟨z',0,hz',by show(ys.map _).length<=40; rw[List.length_map]; exact h4,by decide,?_,?_,fun _=>⟨rfl,rfl,hct,ys,rfl,y1,hr,h4⟩⟩
      ·refine z03 hC (z05 (by simp) (z03 hN (z05 (by simp) (z03 (by rw[z2]; exact hI) (z06 (by rw[z1]; exact hj) (z05 (by simp) (z03 (by rw[z0]; exact r1) (z05 (by simp) ?_))))))));rw[z1,hwc];exact z03 (zPX (by omega) hcc) rfl
      ·refine z03 hgz (z05 (by simp) (z03 hB (z05 (by simp) ?_)));simp only[hll,List.length_map];refine z8o hloop (z8p (z0G (z1F (by simp) (by rw[z2]; simp; omega) (by decide)) ?_));rw[z2];refine z06 hS (z06 (by rw[z1]; exact hj) (z05 (by simp) (z03 (by rw[z0]; exact r2) (z05 (by simp) ?_))));rw[z0,z1,hwc];have hyl2:((gd [D.lst (ys.map Rec.d)] 0).l)=ys.map Rec.d:=rfl;simp only[hyl2,List.length_map];refine z06 (l:=[z'.d]) (z2Q (fun i (s:List Rec)=>[Zn.d ⟨z.apex,z.counter+1,s⟩,.int (i:Int)]) ys.length (fun i=>(ys.take i).map (cntF (z.counter+1))) (t:=0) rfl ?_ ?_) rfl
       ·intro i hi;have hgg:gd (ys.map Rec.d) i=ys[i].d:=z5A hi;have f1:(ys[i].d.fld 1).i=ys[i].type:=rfl;have e1:∀q:D,(gd [q,D.int (i:Int)] 1).i=(i:Int):=fun _=>rfl;have e0:∀q:D,gd [q,D.int (i:Int)] 0=q:=fun _=>rfl;simp only[e0,e1,Int.toNat_natCast,hgg,f1];refine z01 (decide_eq_true (by omega)) (z01 (z0B hi) (z0b (l:=[(cntF (z.counter+1) ys[i]).d]) ?_ (z01 ?_ ?_)))
        ·unfold cntF;by_cases h6:ys[i].type=6
         ·rw[if_pos h6];exact z01 (by simp[h6]) (z04 (zPd (z:=⟨z.apex,z.counter+1,(ys.take i).map (cntF (z.counter+1))⟩) hcc) rfl)
         ·rw[if_neg h6];exact z00 (by simpa using h6) rfl
        ·show appOk 48 (((ys.take i).map (cntF (z.counter+1))).map Rec.d) _=true;exact z1F (by simp; omega) (by simp; omega) (by decide)
        ·show some (0,[(Zn.d ⟨z.apex,z.counter+1,(ys.take i).map (cntF (z.counter+1))⟩).setFld 2 (D.lst (((ys.take i).map (cntF (z.counter+1))).map Rec.d++[(cntF (z.counter+1) ys[i]).d])),D.int (IntKind.wrap .i64 ((i:Int)+1))])=_;rw[z0P hi (by rw[z0c]; omega),List.take_add_one,List.getElem?_eq_getElem hi,List.map_append];unfold Zn.d;rw[List.map_append];rfl
       ·rw[List.take_length];exact z00 (by simp[gd]) rfl
     ·have e1:n1≠0:=fun h=>hr ((zF8 y1).1 (r1'.1 h).2);have e2:n2≠0:=fun h=>hr (r2'.1 h);refine⟨z,3,hz,h40,by decide,z03 hC (z05 (by simp) (z03 hN (z05 (by simp) (z03 (by rw[z2]; exact hI) (z06 (by rw[z1]; exact hj) (z05 (by simp) (z03 (by rw[z0]; exact r1) (z0G (by simpa using e1) rfl)))))))),?_,by simp⟩;refine z03 hgz (z05 (by simp) (z03 hB (z05 (by simp) ?_)));simp only[hll,List.length_map];refine z8o hloop (z8p (z0G (z1F (by simp) (by rw[z2]; simp; omega) (by decide)) ?_));rw[z2];exact z06 hS (z06 (by rw[z1]; exact hj) (z05 (by simp) (z03 (by rw[z0]; exact r2) (z0G (by simpa using e2) (z03 hown rfl)))))
   ·have hany:l.any (zG8 z.recs)=true:=by
     rw[List.any_eq_true];rw[z0E hk]at hmk;exact⟨_,List.getElem_mem hk,by simpa using hmk⟩
    rw[hany]at hN;refine⟨z,2,hz,h40,by decide,z03 hC (z05 (by simp) (z03 hN (z0G rfl rfl))),?_,by simp⟩;refine z03 hgz (z05 (by simp) (z03 hB (z05 (by simp) ?_)));simp only[hll,List.length_map];exact z06 hloop rfl
end Go.Proofs.YtilejnnnkfjmmaaGreatDoor
