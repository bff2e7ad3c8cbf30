/- What the functions compute, in plain words. -/
import Derived.Test.YtcnjllnhfoiojaaGreatDoorP7
set_option linter.unusedSectionVars false
set_option linter.unusedVariables false
set_option linter.unusedSimpArgs false
namespace Go.Own
variable [Glb]
open Go
theorem zMv {l:List D} {i j:Nat} {x:D} (h:i≠j):gd (l.set i x) j=gd l j:=by
 unfold gd
 simp[List.getElem?_set_ne h]
theorem zM8 {l:List D} {i j:Nat} {v:D}:(upd l i j v).length=l.length:=by simp[upd]
theorem zG2 {l:List D} {i j k:Nat} {v:D}:(upd2 l i j k v).length=l.length:=by simp[upd2]
theorem zUi {l:List D} {i j m:Nat} {v:D} (h:i≠m):gd (upd l i j v) m=gd l m:=by unfold upd; exact zMv h
theorem zBH {l:List D} {i j k m:Nat} {v:D} (h:i≠m):gd (upd2 l i j k v) m=gd l m:=by unfold upd2; exact zMv h
theorem zSB {l:List D} {i j:Nat} {v:D} (h:i<l.length):gd (upd l i j v) i=(gd l i).setFld j v:=by unfold upd; exact zE0 h
theorem zOt {l:List D} {i j k:Nat} {v:D} (h:i<l.length):gd (upd2 l i j k v) i=(gd l i).setFld j (((gd l i).fld j).setFld k v):=by unfold upd2; exact zE0 h
theorem zU3 {α:Type} {F:List D->Outc} {f:α->D} {xs:List α} {k0:Int} (B:Int) (hB:0<=B) (hk0:0<=k0)
 (hstep:∀(i:Nat) (hi:i<xs.length) (zs:List D) (k:Int),zs.length=xs.length->gd zs i=f xs[i]->0<=k->k<=k0+i*B->∃(zs':List D) (k':Int),F [.lst zs,.int k,.int i]=some (0,[.lst zs',.int k',.int ((i+1:Nat):Int)])/\zs'.length=xs.length/\(∀j,i<j->gd zs' j=gd zs j)/\0<=k'/\k'<=k+B)
 (hend:∀(zs:List D) (k:Int),zs.length=xs.length->F [.lst zs,.int k,.int xs.length]=some (1,[.lst zs,.int k])) :
 ∃(zs:List D) (k:Int),0<=k/\k<=k0+xs.length*B/\z0Y F [.lst (xs.map f),.int k0,.int 0]=some (0,[.lst zs,.int k]):=by
 obtain⟨s,hs,hloop⟩:=zU1 (f:=F) (l:=[.lst (xs.map f),.int k0,.int 0]) (fun i (s:List D×Int)=>[.lst s.1,.int s.2,.int i]) (fun i s=>s.1.length=xs.length/\(∀j (hj:j<xs.length),i<=j->gd s.1 j=f xs[j])/\0<=s.2/\s.2<=k0+i*B) xs.length (t:=0) (out:=fun s=>[.lst s.1,.int s.2]) (xs.map f,k0) rfl ⟨by simp,fun j hj _=>by rw[zA5 (by simpa using hj)]; simp,hk0,by simp⟩ (by
  rintro i ⟨zs,k⟩ hi ⟨hzl,hzg,h0,h1⟩;obtain⟨zs',k',hF,hl',hn',h0',h1'⟩:=hstep i hi zs k hzl (hzg i hi (Nat.le_refl _)) h0 h1;refine⟨(zs',k'),hF,hl',fun j hj hij=>?_,h0',?_⟩
  ·exact(hn' j (by omega)).trans (hzg j hj (by omega))
  ·simp only at h1 h1' |-;have:((i+1:Nat):Int)*B=i*B+B:=by rw[Int.natCast_add,Int.add_mul]; simp
   rw[this]; omega) (by
  rintro⟨zs,k⟩ ⟨hzl,_⟩;exact hend zs k hzl)
 exact⟨s.1,s.2,hs.2.2.1,hs.2.2.2,hloop⟩
theorem zUh {l:List D} {i j:Nat} {v:D}:upd l i j v=l.set i ((gd l i).setFld j v):=rfl
theorem zTN {l:List D} {i j k:Nat} {v:D}:upd2 l i j k v=l.set i ((gd l i).setFld j (((gd l i).fld j).setFld k v)):=rfl
theorem zVL {l:List D} {i j:Nat} {x v:D} (h:i<l.length):upd (l.set i x) i j v=l.set i (x.setFld j v):=by
 rw[zUh,zE0 h,List.set_set]
theorem zUO {l:List D} {i j k:Nat} {x v:D} (h:i<l.length):upd2 (l.set i x) i j k v=l.set i (x.setFld j ((x.fld j).setFld k v)):=by
 rw[zTN,zE0 h,List.set_set]
def kq {α:Type} (nx:α->Int->Int) (xs:List α) (d0:α) (k:Int):Nat->Int
 | 0=>k
 | i+1=>nx (xs.getD i d0) (kq nx xs d0 k i)
def mkL {α:Type} (nx:α->Int->Int) (mk:α->Int->α) (xs:List α) (d0:α) (k:Int):List α:=(List.range xs.length).map fun i=>mk (xs.getD i d0) (kq nx xs d0 k i)
theorem zOv {α:Type} {xs:List α} {i:Nat} (h:i<xs.length) (d:α):xs.getD i d=xs[i]:=by
 rw[List.getD_eq_getElem?_getD,List.getElem?_eq_getElem h]; rfl
theorem zLA {α:Type} {nx:α->Int->Int} {xs:List α} {d0:α} {k:Int} {i:Nat} (h:i<xs.length):kq nx xs d0 k (i+1)=nx xs[i] (kq nx xs d0 k i):=by
 show nx (xs.getD i d0) _=_
 rw[zOv h]
theorem zUW {α:Type} {f:α->D} {nx:α->Int->Int} {mk:α->Int->α} {xs:List α} {d0:α} {k:Int} {i:Nat} (h:i<xs.length):gd ((mkL nx mk xs d0 k).map f) i=f (mk xs[i] (kq nx xs d0 k i)):=by
 unfold mkL
 rw[zA5 (by simpa using h)]
 simp only[List.getElem_map,List.getElem_range]
 rw[zOv h]
theorem zSd {α:Type} {nx:α->Int->Int} {mk:α->Int->α} {xs:List α} {d0:α} {k:Int}:(mkL nx mk xs d0 k).length=xs.length:=by simp[mkL]
theorem z8j {α:Type} {nx:α->Int->Int} {xs:List α} {d0:α} {k:Int} {B:Int} (h:∀x∈xs,∀k,k<=nx x k/\nx x k<=k+B):∀i,i<=xs.length->k<=kq nx xs d0 k i/\kq nx xs d0 k i<=k+i*B
 | 0,_=>⟨Int.le_refl _,by show k<=_; simp⟩
 | i+1,hi=>by
   obtain⟨h1,h2⟩:=z8j (d0:=d0) (k:=k) h i (by omega);have hi':i<xs.length:=by omega
   rw[zLA hi'];obtain⟨h3,h4⟩:=h _ (List.getElem_mem hi') (kq nx xs d0 k i);have:((i+1:Nat):Int)*B=i*B+B:=by rw[Int.natCast_add,Int.add_mul]; simp
   rw[this];omega
theorem zSa {α:Type} {F:List D->Outc} {f:α->D} {xs:List α} {d0:α} {nx:α->Int->Int} {mk:α->Int->α} {k0:Int}
 (hstep:∀i (hi:i<xs.length) (zs:List D),zs.length=xs.length->gd zs i=f xs[i]->F [.lst zs,.int (kq nx xs d0 k0 i),.int (i:Int)]=some (0,[.lst (zs.set i (f (mk xs[i] (kq nx xs d0 k0 i)))),.int (nx xs[i] (kq nx xs d0 k0 i)),.int ((i+1:Nat):Int)]))
 (hend:∀(zs:List D) (k:Int),zs.length=xs.length->F [.lst zs,.int k,.int xs.length]=some (1,[.lst zs,.int k])) :
 z0Y F [.lst (xs.map f),.int k0,.int 0]=some (0,[.lst ((mkL nx mk xs d0 k0).map f),.int (kq nx xs d0 k0 xs.length)]):=by
 let ys:Nat->D:=fun i=>f (mk (xs.getD i d0) (kq nx xs d0 k0 i))
 have hml:(xs.map f).length=xs.length:=by simp
 refine z0u (fun i (zs:List D)=>[.lst zs,.int (kq nx xs d0 k0 i),.int (i:Int)]) xs.length (over ys (xs.map f)) (by rw[zC7]; rfl) ?_ ?_
 ·intro i hi;have hi':i<(xs.map f).length:=by rw[hml]; exact hi
  have hol:(over ys (xs.map f) i).length=xs.length:=by rw[z7b (Nat.le_of_lt hi'),hml]
  have hg:gd (over ys (xs.map f) i) i=f xs[i]:=by
   rw[zLT hi',zA5 hi']; simp
  rw[hstep i hi _ hol hg,<- zLA (nx:=nx) (d0:=d0) (k:=k0) hi];have:(over ys (xs.map f) i).set i (f (mk xs[i] (kq nx xs d0 k0 i)))=over ys (xs.map f) (i+1):=zC6 hi' (by show _=f (mk (xs.getD i d0) _); rw[zOv hi]);rw[this]
 ·have hol:(over ys (xs.map f) xs.length).length=xs.length:=by rw[z7b (by rw[hml]; exact Nat.le_refl _),hml]
  rw[hend _ _ hol];have h:=zFy (ys:=ys) (xs:=xs.map f);rw[hml]at h;rw[h];simp only[mkL,List.map_map];rfl
end Go.Own
namespace Go.Proofs.YtcnjllnhfoiojaaGreatDoor
open Go Go.Own
theorem z6d {k:Int} (h0:0<=k) (h1:k<=100000000000000000):IntKind.wrap .i64 (k+1)=k+1:=z0h (by omega) (by omega)
theorem mulB {n:Nat} {B:Int} (hn:n<=lim) (h0:0<=B) (h1:B<=20000000):(n:Int)*B<=1048576*20000000/\0<=(n:Int)*B:=by
 have hlim:lim=1048576:=rfl
 constructor
 ·exact Int.mul_le_mul (by omega) h1 h0 (by omega)
 ·exact Int.mul_nonneg (by omega) h0
def zVw (e:List D->Option D) (d:D):Prop:=∀k:Int,0<=k->k<=10000000000000000->∃(k':Int) (y:D),0<=k'/\k'<=k+30000000000000/\e [d,.int k]=some (.pair (.int k') (.pair y .unit))
theorem zD4 {xs:List Rec} (hl:xs.length<=lim) {k:Int} (h0:0<=k) (h1:k<=100000000000000000):∃(k':Int) (y:D),0<=k'/\k'<=k+4194304/\z0X.F [.lst (xs.map Rec.d),.int k]=some (.pair (.int k') (.pair y .unit)):=by
 have h10:=z92
 have hlim:lim=1048576:=rfl
 exact⟨_,_,by omega,by omega,z5R h0 (by omega)⟩
theorem z8J {k:Int} (h0:0<=k) (h1:k<=100000000000000000):z0a.F [.int k]=some (.str (mtA k)):=zNJ h0 (by have h10:=z92; omega)
theorem zLE {xs:List Prc} (hl:xs.length<=lim) (hx:∀x∈xs,x.In lim):zVw z2w.F (.lst (xs.map Prc.d)):=by
 intro k h0 h1
 have hsm:=Nat.le_trans hl z0R
 rw[z7s]
 have hm:=mulB (n:=xs.length) (B:=20000000) hl (by decide) (by decide)
 obtain⟨zs,k',g0,g1,hloop⟩:=zU3 (f:=Prc.d) (xs:=xs) (k0:=k) 20000000 (by decide) h0 (F:=fun l2=>
  if (decide ((gd l2 2).i<((gd l2 0).l.length:Int)))then
   if (inb (gd l2 2).i (gd l2 0).l.length)then
   if (3 != 0)then
   (z0a.F [(.int (IntKind.wrap .i64 ((IntKind.wrap .i64 ((gd l2 1).i+1))+1)))]).bind fun r5=>
   (z0X.F [(((gd (D.lst (upd2 (upd2 (upd (upd (gd l2 0).l (gd l2 2).i.toNat 0 (gd l2 1)) (gd l2 2).i.toNat 1 (.bool (((IntKind.wrap .i64 ((gd l2 1).i+1)).tmod 3)==0))) (gd l2 2).i.toNat 2 0 r5) (gd l2 2).i.toNat 2 1 (.int (IntKind.wrap .i64 ((IntKind.wrap .i64 ((IntKind.wrap .i64 ((gd l2 1).i+1))+1))+1))))).l (gd l2 2).i.toNat).fld 2).fld 2),(.int (IntKind.wrap .i64 ((IntKind.wrap .i64 ((IntKind.wrap .i64 ((IntKind.wrap .i64 ((gd l2 1).i+1))+1))+1))+1)))]).bind fun r6=>
   (z0X.F [(((gd (D.lst (upd2 (upd2 (upd2 (upd2 (upd2 (upd (upd (gd l2 0).l (gd l2 2).i.toNat 0 (gd l2 1)) (gd l2 2).i.toNat 1 (.bool (((IntKind.wrap .i64 ((gd l2 1).i+1)).tmod 3)==0))) (gd l2 2).i.toNat 2 0 r5) (gd l2 2).i.toNat 2 1 (.int (IntKind.wrap .i64 ((IntKind.wrap .i64 ((IntKind.wrap .i64 ((gd l2 1).i+1))+1))+1)))) (gd l2 2).i.toNat 2 2 (r6.fld 1)) (gd l2 2).i.toNat 3 0 (r6.fld 0)) (gd l2 2).i.toNat 3 1 (.int (IntKind.wrap .i64 ((r6.fld 0).i+1))))).l (gd l2 2).i.toNat).fld 3).fld 2),(.int (IntKind.wrap .i64 ((IntKind.wrap .i64 ((r6.fld 0).i+1))+1)))]).bind fun r7=>
   (z0X.F [(((gd (D.lst (upd2 (upd2 (upd2 (upd2 (upd2 (upd2 (upd (upd (gd l2 0).l (gd l2 2).i.toNat 0 (gd l2 1)) (gd l2 2).i.toNat 1 (.bool (((IntKind.wrap .i64 ((gd l2 1).i+1)).tmod 3)==0))) (gd l2 2).i.toNat 2 0 r5) (gd l2 2).i.toNat 2 1 (.int (IntKind.wrap .i64 ((IntKind.wrap .i64 ((IntKind.wrap .i64 ((gd l2 1).i+1))+1))+1)))) (gd l2 2).i.toNat 2 2 (r6.fld 1)) (gd l2 2).i.toNat 3 0 (r6.fld 0)) (gd l2 2).i.toNat 3 1 (.int (IntKind.wrap .i64 ((r6.fld 0).i+1)))) (gd l2 2).i.toNat 3 2 (r7.fld 1))).l (gd l2 2).i.toNat).fld 3).fld 3),(r7.fld 0)]).bind fun r8=>
   ou 0 [(D.lst (upd2 (upd2 (upd2 (upd2 (upd2 (upd2 (upd2 (upd (upd (gd l2 0).l (gd l2 2).i.toNat 0 (gd l2 1)) (gd l2 2).i.toNat 1 (.bool (((IntKind.wrap .i64 ((gd l2 1).i+1)).tmod 3)==0))) (gd l2 2).i.toNat 2 0 r5) (gd l2 2).i.toNat 2 1 (.int (IntKind.wrap .i64 ((IntKind.wrap .i64 ((IntKind.wrap .i64 ((gd l2 1).i+1))+1))+1)))) (gd l2 2).i.toNat 2 2 (r6.fld 1)) (gd l2 2).i.toNat 3 0 (r6.fld 0)) (gd l2 2).i.toNat 3 1 (.int (IntKind.wrap .i64 ((r6.fld 0).i+1)))) (gd l2 2).i.toNat 3 2 (r7.fld 1)) (gd l2 2).i.toNat 3 3 (r8.fld 1))),(r8.fld 0),(.int (IntKind.wrap .i64 ((gd l2 2).i+1)))]
   else none
   else none
  else
   ou 1 [(gd l2 0),(gd l2 1)]) (by
  intro i hi zs k2 hzl hg hk0 hk1;have hi2:=mulB (n:=i) (B:=20000000) (by omega) (by decide) (by decide);have hzi:i<zs.length:=by omega
  have e0:gd [D.lst zs,D.int k2,D.int (i:Int)] 0=.lst zs:=rfl;have e1:gd [D.lst zs,D.int k2,D.int (i:Int)] 1=.int k2:=rfl;have e2:gd [D.lst zs,D.int k2,D.int (i:Int)] 2=.int i:=rfl;have hxi:=hx _ (List.getElem_mem hi);obtain⟨k3,y3,a3,b3,h3⟩:=zD4 (xs:=xs[i].zone.recs) hxi.zone.len (k:=k2+1+1+1+1) (by omega) (by omega);obtain⟨k4,y4,a4,b4,h4⟩:=zD4 (xs:=xs[i].diff.dels) hxi.diff.dels.len (k:=k3+1+1) (by omega) (by omega);obtain⟨k5,y5,a5,b5,h5⟩:=zD4 (xs:=xs[i].diff.adds) hxi.diff.adds.len (k:=k4) (by omega) (by omega);have w1:=z6d (k:=k2) (by omega) (by omega);have w2:=z6d (k:=k2+1) (by omega) (by omega);have w3:=z6d (k:=k2+1+1) (by omega) (by omega);have w4:=z6d (k:=k2+1+1+1) (by omega) (by omega);have w5:=z6d (k:=k3) (by omega) (by omega);have w6:=z6d (k:=k3+1) (by omega) (by omega);have f6:(D.pair (.int k3) (.pair y3 .unit)).fld 0=.int k3:=rfl;have f7:(D.pair (.int k4) (.pair y4 .unit)).fld 0=.int k4:=rfl;refine⟨upd2 (upd2 (upd2 (upd2 (upd2 (upd2 (upd2 (upd (upd zs i 0 (.int k2)) i 1 (.bool ((k2+1).tmod 3==0))) i 2 0 (.str (mtA (k2+1+1)))) i 2 1 (.int (k2+1+1+1))) i 2 2 y3) i 3 0 (.int k3)) i 3 1 (.int (k3+1))) i 3 2 y4) i 3 3 y5,k5,z03 (by rw[e0,e2]; exact decide_eq_true (show(i:Int)<(zs.length:Int) by omega)) (z03 (by rw[e0,e2]; exact z0A hzi) (z03 (by decide) (z01 (r:=.str (mtA (k2+1+1))) ?_ (z01 (r:=.pair (.int k3) (.pair y3 .unit)) ?_ (z01 (r:=.pair (.int k4) (.pair y4 .unit)) ?_ (z01 (r:=.pair (.int k5) (.pair y5 .unit)) ?_ ?_)))))),by simp only[zM8,zG2]; exact hzl,?_,by omega,by omega⟩
  ·rw[e1,D.i_int,w1,w2];exact z8J (by omega) (by omega)
  ·rw[e0,e1,e2];simp only[D.l_lst,D.i_int,Int.toNat_natCast,zSB,zOt,zM8,zG2,hzi,hg,w1,w2,w3,w4];exact h3
  ·rw[e0,e1,e2,f6];simp only[D.l_lst,D.i_int,Int.toNat_natCast,zSB,zOt,zM8,zG2,hzi,hg,w1,w2,w3,w4,w5,w6];exact h4
  ·rw[e0,e1,e2,f6,f7];simp only[D.l_lst,D.i_int,Int.toNat_natCast,zSB,zOt,zM8,zG2,hzi,hg,w1,w2,w3,w4,w5,w6];exact h5
  ·rw[e0,e1,e2,f6];simp only[D.l_lst,D.i_int,Int.toNat_natCast,w1,w2,w3,w5,z0B hi hsm];rfl
  ·intro j hj;have hne:i≠j:=by omega
   rw[zBH hne,zBH hne,zBH hne,zBH hne,zBH hne,zBH hne,zBH hne,zUi hne,zUi hne]) (by
  intro zs k2 hzl;exact z00 (by simp[hzl]) rfl)
 exact⟨k',.lst zs,g0,by omega,z0E hloop rfl⟩
def dmk (k:Int):Dn:=⟨k,k+1,k+2,k+3⟩
def dmk4 (k:Int) (i:Nat):D:=(dmk (k+4*i)).d
def z4G (k:Int) (n:Nat):List Dn:=(List.range n).map fun i:Nat=>dmk (k+4*i)
theorem zSb (k:Int) (n:Nat):(List.range n).map (dmk4 k)=(z4G k n).map Dn.d:=by
 simp only[z4G,List.map_map]
 rfl
theorem zH4 (k:Int) (n:Nat):(z4G k n).length=n:=by simp[z4G]
theorem zMh {xs:List Dn} {k:Int} (h0:0<=k) (h1:k+4*xs.length<10 ^ 18) :
 z4f.F [.lst (xs.map Dn.d),.int k]=some (.pair (.int (k+4*xs.length)) (.pair (.lst ((z4G k xs.length).map Dn.d)) .unit)):=by
 have h10:=z92
 have hl:xs.length<=smax:=by simp[smax]; omega
 have hml:(xs.map Dn.d).length=xs.length:=by simp
 rw[zFR]
 refine z0E (z0u (fun i (zs:List D)=>[.lst zs,.int (k+4*i),.int i]) xs.length (over (dmk4 k) (xs.map Dn.d)) (t:=0) (o:=[.lst ((z4G k xs.length).map Dn.d),.int (k+4*xs.length)]) (by simp[zC7]) ?_ ?_) rfl
 ·intro i hi;have hi':i<(xs.map Dn.d).length:=by simpa using hi
  have w1:IntKind.wrap .i64 (k+4*(i:Int)+1)=k+4*i+1:=by rw[z0h] <;> omega
  have w2:IntKind.wrap .i64 (k+4*(i:Int)+1+1)=k+4*i+2:=by rw[z0h] <;> omega
  have w3:IntKind.wrap .i64 (k+4*(i:Int)+2+1)=k+4*i+3:=by rw[z0h] <;> omega
  have w4:IntKind.wrap .i64 (k+4*(i:Int)+3+1)=k+4*((i+1:Nat):Int):=by rw[z0h] <;> omega
  have hol:(over (dmk4 k) (xs.map Dn.d) i).length=xs.length:=by rw[z7b (Nat.le_of_lt hi'),hml]
  have hol':i<(over (dmk4 k) (xs.map Dn.d) i).length:=by rw[hol]; exact hi
  have hg:gd (over (dmk4 k) (xs.map Dn.d) i) i=xs[i].d:=(zLT hi').trans (zMu hi);refine z03 (by simp[hol]; omega) (z03 ?_ ?_)
  ·simp only[z0k,z9J,D.l_lst,D.i_int,hol]; exact z0A hi
  ·simp only[upd,z0k,z1c,z9J,D.l_lst,D.i_int,Int.toNat_natCast,List.set_set,zE0 hol',hg,w1,w2,w3,w4,z0B hi hl];rw[zC6 hi']
   all_goals rfl
 ·have:=zFy (ys:=dmk4 k) (xs:=xs.map Dn.d);have h2:(z4G k xs.length).length=xs.length:=zH4 _ _;rw[hml,zSb]at this;simp[this,h2]
theorem zMZ {n:Nat} {k:Int} (h0:0<=k) (h1:k+4*n<10 ^ 18):z4c.F [.lst ((z4G k n).map Dn.d),.int k]=some (.int (k+4*n)):=by
 have h10:=z92
 have hl:n<=smax:=by simp[smax]; omega
 have hml:(z4G k n).length=n:=zH4 _ _
 have hlen:(D.lst ((z4G k n).map Dn.d)).l.length=n:=by simp[hml]
 rw[zFN,hlen]
 refine z0E (z0u (fun i (_:Unit)=>[.int (k+4*i),.int i]) n (fun _=>()) (t:=1) (o:=[.int (k+4*n)]) (by simp) ?_ ?_) rfl
 ·intro i hi;have w1:IntKind.wrap .i64 (k+4*(i:Int)+1)=k+4*i+1:=by rw[z0h] <;> omega
  have w2:IntKind.wrap .i64 (k+4*(i:Int)+1+1)=k+4*i+2:=by rw[z0h] <;> omega
  have w3:IntKind.wrap .i64 (k+4*(i:Int)+2+1)=k+4*i+3:=by rw[z0h] <;> omega
  have w4:IntKind.wrap .i64 (k+4*(i:Int)+3+1)=k+4*((i+1:Nat):Int):=by rw[z0h] <;> omega
  have hg:gd ((z4G k n).map Dn.d) i=(dmk (k+4*i)).d:=by
   rw[zMu (by rw[hml]; exact hi)]; simp[z4G]
  refine z03 (by simpa using hi) (z03 (by simpa using z0A hi) ?_);simp only[z0k,z1c,D.l_lst,D.i_int,Int.toNat_natCast,hg,w1,w2,w3,w4,z0B hi hl];have f0:(dmk (k+4*i)).d.fld 0=.int (k+4*i):=rfl;have f1:(dmk (k+4*i)).d.fld 1=.int (k+4*i+1):=rfl;have f2:(dmk (k+4*i)).d.fld 2=.int (k+4*i+2):=rfl;have f3:(dmk (k+4*i)).d.fld 3=.int (k+4*i+3):=rfl;rw[f0,f1,f2,f3];exact z00 (by simp) (z00 (by simp) (z00 (by simp) (z00 (by simp) rfl)))
 ·simp
theorem zV0 (c:Ctl) (x y:D):D.mix (.pair (.pair .str (.pair (.int .i64) (.pair (.lst true (.pair .str (.pair (.int .i64) (.pair (.int .i64) (.pair .str .unit))))) .unit))) (.pair (.lst true (.pair (.int .i64) (.pair (.int .i64) (.pair (.int .i64) (.pair (.int .i64) .unit))))) (.pair (.int .i64) .unit))) c.d ((c.d.setFld 0 (.pair ((c.d.fld 0).fld 0) (.pair ((c.d.fld 0).fld 1) (.pair x .unit)))).setFld 1 y)=.pair (.pair (.str c.zone.apex) (.pair (.int c.zone.counter) (.pair x .unit))) (.pair y (.pair (.int c.many) .unit)):=by
 unfold D.mix
 split
 ·rfl
 ·rfl
theorem zIa {c:Ctl} (hc:c.In lim):∃y:D,z3f.F [c.d,.int 1]=some (.pair (.int (1+4*c.zone.recs.length+4*c.last.length)) (.pair y .unit))/\(y.fld 0).fld 2=.lst ((z33 1 c.zone.recs.length).map Rec.d)/\y.fld 1=.lst ((z4G (1+4*c.zone.recs.length) c.last.length).map Dn.d):=by
 have h10:=z92
 have hlim:lim=1048576:=rfl
 have hz:=hc.zone.len
 have hl:=hc.len
 have f0:c.d.fld 0=c.zone.d:=rfl
 have f1:c.d.fld 1=.lst (c.last.map Dn.d):=rfl
 obtain⟨m,hm,hm2⟩:=zQm (z:=c.zone) (k:=1) (by decide) (by omega)
 have hd:=zMh (xs:=c.last) (k:=1+4*c.zone.recs.length) (by omega) (by omega)
 have hq:=zV0 c (m.fld 2) (.lst ((z4G (1+4*c.zone.recs.length) c.last.length).map Dn.d))
 rw[f0]at hq
 rw[zCL,f0,f1]
 refine⟨.pair (.pair (.str c.zone.apex) (.pair (.int c.zone.counter) (.pair (.lst ((z33 1 c.zone.recs.length).map Rec.d)) .unit))) (.pair (.lst ((z4G (1+4*c.zone.recs.length) c.last.length).map Dn.d)) (.pair (.int c.many) .unit)),z04 hm (z04 hd ?_),rfl,rfl⟩
 show some (D.pair _ (.pair (D.mix _ c.d ((c.d.setFld 0 (.pair (c.zone.d.fld 0) (.pair (c.zone.d.fld 1) (.pair (m.fld 2) .unit)))).setFld 1 (.lst ((z4G (1+4*c.zone.recs.length) c.last.length).map Dn.d)))) .unit))=_
 rw[hq,hm2]
 rfl
theorem zIY {a:List UInt8} {cn:Int} {n m:Nat} {z:D} (hn:n<=lim) (hm:m<=lim):z3c.F [.pair (.pair (.str a) (.pair (.int cn) (.pair (.lst ((z33 1 n).map Rec.d)) .unit))) (.pair (.lst ((z4G (1+4*n) m).map Dn.d)) (.pair z .unit)),.int 1]=some (.int (1+4*n+4*m)):=by
 have h10:=z92
 have hlim:lim=1048576:=rfl
 rw[zCH]
 have hz:=zQf (a:=a) (c:=cn) (n:=n) (k:=1) (by decide) (by omega)
 have hd:=zMZ (n:=m) (k:=1+4*n) (by omega) (by omega)
 exact z04 hz (z05 (fun h=>absurd (of_decide_eq_true h) (by rw[D.i_int]; omega)) (z04 hd (z05 (fun h=>absurd (of_decide_eq_true h) (by rw[D.i_int]; omega)) rfl)))
def nxD (x:Dif) (k:Int):Int:=k+1+1+4*x.dels.length+4*x.adds.length
noncomputable def mkD (x:Dif) (k:Int):Dif:=⟨k,k+1,z33 (k+1+1) x.dels.length,z33 (k+1+1+4*x.dels.length) x.adds.length⟩
def nxE (x:Edg) (k:Int):Int:=k+1+1+4*x.zone.recs.length+1+1+4*x.saved.recs.length
noncomputable def mkE' (x:Edg) (k:Int):Edg:=⟨⟨mtA k,k+1,z33 (k+1+1) x.zone.recs.length⟩,⟨mtA (k+1+1+4*x.zone.recs.length),k+1+1+4*x.zone.recs.length+1,z33 (k+1+1+4*x.zone.recs.length+1+1) x.saved.recs.length⟩⟩
theorem zH9 {xs:List Dif} (hx:∀x∈xs,x.In lim):∀x∈xs,∀k,k<=nxD x k/\nxD x k<=k+20000000:=by
 intro x hm k
 have hlim:lim=1048576:=rfl
 have:=(hx x hm).dels.len
 have:=(hx x hm).adds.len
 unfold nxD
 omega
theorem zHA {xs:List Edg} (hx:∀x∈xs,x.In lim):∀x∈xs,∀k,k<=nxE x k/\nxE x k<=k+20000000:=by
 intro x hm k
 have hlim:lim=1048576:=rfl
 have:=(hx x hm).zone.len
 have:=(hx x hm).saved.len
 unfold nxE
 omega
theorem zMg {xs:List Dif} (hl:xs.length<=lim) (hx:∀x∈xs,x.In lim) {k:Int} (h0:0<=k) (h1:k<=10000000000000000):z4e.F [.lst (xs.map Dif.d),.int k]=some (.pair (.int (kq nxD xs Dif.nul k xs.length)) (.pair (.lst ((mkL nxD mkD xs Dif.nul k).map Dif.d)) .unit)):=by
 have hsm:=Nat.le_trans hl z0R
 have hlim:lim=1048576:=rfl
 have h10:=z92
 rw[zFQ]
 refine z0E (zSa (f:=Dif.d) (xs:=xs) (d0:=Dif.nul) (nx:=nxD) (mk:=mkD) (k0:=k) ?_ ?_) rfl
 ·intro i hi zs hzl hg;obtain⟨b1,b2⟩:=z8j (d0:=Dif.nul) (k:=k) (zH9 hx) i (Nat.le_of_lt hi);have hi2:=mulB (n:=i) (B:=20000000) (by omega) (by decide) (by decide);generalize kq nxD xs Dif.nul k i=k2 at b1 b2 |-;have hzi:i<zs.length:=by omega
  have e0:gd [D.lst zs,D.int k2,D.int (i:Int)] 0=.lst zs:=rfl;have e1:gd [D.lst zs,D.int k2,D.int (i:Int)] 1=.int k2:=rfl;have e2:gd [D.lst zs,D.int k2,D.int (i:Int)] 2=.int i:=rfl;have hxi:=hx _ (List.getElem_mem hi);have l1:=hxi.dels.len;have l2:=hxi.adds.len;have m1:=z5R (xs:=xs[i].dels) (k:=k2+1+1) (by omega) (by omega);have m2:=z5R (xs:=xs[i].adds) (k:=k2+1+1+4*xs[i].dels.length) (by omega) (by omega);have u0:∀v,upd zs i 0 v=zs.set i (xs[i].d.setFld 0 v):=fun v=>by rw[zUh,hg]
  have w1:=z6d (k:=k2) (by omega) (by omega);have w2:=z6d (k:=k2+1) (by omega) (by omega);simp only[e0,e1,e2,D.l_lst,D.i_int,Int.toNat_natCast,u0,zVL hzi,zE0 hzi,w1,w2,z0B hi hsm];exact z03 (decide_eq_true (show(i:Int)<(zs.length:Int) by omega)) (z03 (z0A hzi) (z01 m1 (z01 m2 rfl)))
 ·intro zs k2 hzl;exact z00 (by simp[hzl]) rfl
theorem zMY {xs:List Dif} (hl:xs.length<=lim) (hx:∀x∈xs,x.In lim) {k:Int} (h0:0<=k) (h1:k<=10000000000000000):z4b.F [.lst ((mkL nxD mkD xs Dif.nul k).map Dif.d),.int k]=some (.int (kq nxD xs Dif.nul k xs.length)):=by
 have hsm:=Nat.le_trans hl z0R
 have hlim:lim=1048576:=rfl
 have h10:=z92
 rw[zFM]
 have hll:(D.lst ((mkL nxD mkD xs Dif.nul k).map Dif.d)).l=(mkL nxD mkD xs Dif.nul k).map Dif.d:=rfl
 simp only[hll,List.length_map,zSd]
 refine z5w (z0u (fun i (_:Unit)=>[.int (kq nxD xs Dif.nul k i),.int (i:Int)]) xs.length (fun _=>()) (t:=1) (o:=[.int (kq nxD xs Dif.nul k xs.length)]) rfl ?_ ?_) rfl
 ·intro i hi;obtain⟨b1,b2⟩:=z8j (d0:=Dif.nul) (k:=k) (zH9 hx) i (Nat.le_of_lt hi);have hi2:=mulB (n:=i) (B:=20000000) (by omega) (by decide) (by decide);have hgg:gd ((mkL nxD mkD xs Dif.nul k).map Dif.d) i=(mkD xs[i] (kq nxD xs Dif.nul k i)).d:=zUW hi;rw[zLA hi];have hxi:=hx _ (List.getElem_mem hi);have l1:=hxi.dels.len;have l2:=hxi.adds.len;simp only[z0k,z1c,D.i_int,Int.toNat_natCast,hgg];generalize kq nxD xs Dif.nul k i=k2 at b1 b2 |-;have m1:=z6P (n:=xs[i].dels.length) (k:=k2+1+1) (by omega) (by omega);have m2:=z6P (n:=xs[i].adds.length) (k:=k2+1+1+4*xs[i].dels.length) (by omega) (by omega);have w1:=z6d (k:=k2) (by omega) (by omega);have w2:=z6d (k:=k2+1) (by omega) (by omega);have g0:((mkD xs[i] k2).d.fld 0).i=k2:=rfl;have g1:((mkD xs[i] k2).d.fld 1).i=k2+1:=rfl;simp only[g0,g1,w1,w2,z0B hi hsm];refine z03 (by simpa using hi) (z03 (z0A hi) (z00 (by simp) (z00 (by simp) (z01 m1 (z00 (fun h=>absurd (of_decide_eq_true h) (by rw[D.i_int]; omega)) (z01 m2 (z00 (fun h=>absurd (of_decide_eq_true h) (by rw[D.i_int]; omega)) rfl)))))))
 ·simp only[z0k,z1c,D.i_int];exact z00 (by simp) rfl
theorem zMi {xs:List Edg} (hl:xs.length<=lim) (hx:∀x∈xs,x.In lim) {k:Int} (h0:0<=k) (h1:k<=10000000000000000):z4g.F [.lst (xs.map Edg.d),.int k]=some (.pair (.int (kq nxE xs Edg.nul k xs.length)) (.pair (.lst ((mkL nxE mkE' xs Edg.nul k).map Edg.d)) .unit)):=by
 have hsm:=Nat.le_trans hl z0R
 have hlim:lim=1048576:=rfl
 have h10:=z92
 rw[zFS]
 refine z0E (zSa (f:=Edg.d) (xs:=xs) (d0:=Edg.nul) (nx:=nxE) (mk:=mkE') (k0:=k) ?_ ?_) rfl
 ·intro i hi zs hzl hg;obtain⟨b1,b2⟩:=z8j (d0:=Edg.nul) (k:=k) (zHA hx) i (Nat.le_of_lt hi);have hi2:=mulB (n:=i) (B:=20000000) (by omega) (by decide) (by decide);generalize kq nxE xs Edg.nul k i=k2 at b1 b2 |-;have hzi:i<zs.length:=by omega
  have e0:gd [D.lst zs,D.int k2,D.int (i:Int)] 0=.lst zs:=rfl;have e1:gd [D.lst zs,D.int k2,D.int (i:Int)] 1=.int k2:=rfl;have e2:gd [D.lst zs,D.int k2,D.int (i:Int)] 2=.int i:=rfl;have hxi:=hx _ (List.getElem_mem hi);have l1:=hxi.zone.len;have l2:=hxi.saved.len;have t1:=z8J (k:=k2) (by omega) (by omega);have m1:=z5R (xs:=xs[i].zone.recs) (k:=k2+1+1) (by omega) (by omega);have t2:=z8J (k:=k2+1+1+4*xs[i].zone.recs.length) (by omega) (by omega);have m2:=z5R (xs:=xs[i].saved.recs) (k:=k2+1+1+4*xs[i].zone.recs.length+1+1) (by omega) (by omega);have u0:∀v,upd2 zs i 0 0 v=zs.set i (xs[i].d.setFld 0 ((xs[i].d.fld 0).setFld 0 v)):=fun v=>by rw[zTN,hg]
  have w1:=z6d (k:=k2) (by omega) (by omega);have w2:=z6d (k:=k2+1) (by omega) (by omega);have w3:=z6d (k:=k2+1+1+4*xs[i].zone.recs.length) (by omega) (by omega);have w4:=z6d (k:=k2+1+1+4*xs[i].zone.recs.length+1) (by omega) (by omega);simp only[e0,e1,e2,D.l_lst,D.i_int,Int.toNat_natCast,u0,zUO hzi,zE0 hzi,w1,w2,z0B hi hsm];refine z03 (decide_eq_true (show(i:Int)<(zs.length:Int) by omega)) (z01 t1 (z03 (z0A hzi) (z01 m1 ?_)));have P0:∀x y:D,(D.pair x (.pair y .unit)).fld 0=x:=fun _ _=>rfl;simp only[P0,D.i_int,w3,w4];exact z01 t2 (z01 m2 rfl)
 ·intro zs k2 hzl;exact z00 (by simp[hzl]) rfl
theorem zMa {xs:List Edg} (hl:xs.length<=lim) (hx:∀x∈xs,x.In lim) {k:Int} (h0:0<=k) (h1:k<=10000000000000000):z4d.F [.lst ((mkL nxE mkE' xs Edg.nul k).map Edg.d),.int k]=some (.int (kq nxE xs Edg.nul k xs.length)):=by
 have hsm:=Nat.le_trans hl z0R
 have hlim:lim=1048576:=rfl
 have h10:=z92
 rw[zFO]
 have hll:(D.lst ((mkL nxE mkE' xs Edg.nul k).map Edg.d)).l=(mkL nxE mkE' xs Edg.nul k).map Edg.d:=rfl
 simp only[hll,List.length_map,zSd]
 refine z5w (z0u (fun i (_:Unit)=>[.int (kq nxE xs Edg.nul k i),.int (i:Int)]) xs.length (fun _=>()) (t:=1) (o:=[.int (kq nxE xs Edg.nul k xs.length)]) rfl ?_ ?_) rfl
 ·intro i hi;obtain⟨b1,b2⟩:=z8j (d0:=Edg.nul) (k:=k) (zHA hx) i (Nat.le_of_lt hi);have hi2:=mulB (n:=i) (B:=20000000) (by omega) (by decide) (by decide);have hgg:gd ((mkL nxE mkE' xs Edg.nul k).map Edg.d) i=(mkE' xs[i] (kq nxE xs Edg.nul k i)).d:=zUW hi;rw[zLA hi];have hxi:=hx _ (List.getElem_mem hi);have l1:=hxi.zone.len;have l2:=hxi.saved.len;simp only[z0k,z1c,D.i_int,Int.toNat_natCast,hgg];generalize kq nxE xs Edg.nul k i=k2 at b1 b2 |-;have t1:=z8J (k:=k2) (by omega) (by omega);have m1:=z6P (n:=xs[i].zone.recs.length) (k:=k2+1+1) (by omega) (by omega);have t2:=z8J (k:=k2+1+1+4*xs[i].zone.recs.length) (by omega) (by omega);have m2:=z6P (n:=xs[i].saved.recs.length) (k:=k2+1+1+4*xs[i].zone.recs.length+1+1) (by omega) (by omega);have w1:=z6d (k:=k2) (by omega) (by omega);have w2:=z6d (k:=k2+1) (by omega) (by omega);have w3:=z6d (k:=k2+1+1+4*xs[i].zone.recs.length) (by omega) (by omega);have w4:=z6d (k:=k2+1+1+4*xs[i].zone.recs.length+1) (by omega) (by omega);have g0:(((mkE' xs[i] k2).d.fld 0).fld 0).s=mtA k2:=rfl;have g1:(((mkE' xs[i] k2).d.fld 0).fld 1).i=k2+1:=rfl;have g2:(((mkE' xs[i] k2).d.fld 1).fld 0).s=mtA (k2+1+1+4*xs[i].zone.recs.length):=rfl;have g3:(((mkE' xs[i] k2).d.fld 1).fld 1).i=k2+1+1+4*xs[i].zone.recs.length+1:=rfl;simp only[g0,g1,g2,g3,w1,w2,z0B hi hsm];refine z03 (by simpa using hi) (z03 (z0A hi) (z01 t1 (z00 (by simp) (z00 (by simp) (z01 m1 (z00 (fun h=>absurd (of_decide_eq_true h) (by rw[D.i_int]; omega)) (z01 t2 (z00 (by simp) ?_))))))));simp only[D.i_int,w3,w4];refine z00 (by simp) (z01 m2 (z00 (fun h=>absurd (of_decide_eq_true h) (by rw[D.i_int]; omega)) rfl))
 ·simp only[z0k,z1c,D.i_int];exact z00 (by simp) rfl
end Go.Proofs.YtcnjllnhfoiojaaGreatDoor
namespace Go.Proofs.YtcnjllnhfoiojaaGreatDoor
open Go Go.Own
theorem zSN {xs:List Dif} (hl:xs.length<=lim) (hx:∀x∈xs,x.In lim) (k:Int):k<=kq nxD xs Dif.nul k xs.length/\kq nxD xs Dif.nul k xs.length<=k+30000000000000:=by
 obtain⟨h1,h2⟩:=z8j (d0:=Dif.nul) (k:=k) (zH9 hx) xs.length (Nat.le_refl _)
 have:=mulB (n:=xs.length) (B:=20000000) hl (by decide) (by decide)
 exact⟨h1,by omega⟩
theorem zSO {xs:List Edg} (hl:xs.length<=lim) (hx:∀x∈xs,x.In lim) (k:Int):k<=kq nxE xs Edg.nul k xs.length/\kq nxE xs Edg.nul k xs.length<=k+30000000000000:=by
 obtain⟨h1,h2⟩:=z8j (d0:=Edg.nul) (k:=k) (zHA hx) xs.length (Nat.le_refl _)
 have:=mulB (n:=xs.length) (B:=20000000) hl (by decide) (by decide)
 exact⟨h1,by omega⟩
def kCtl (f:Flt):Int:=1+4*(f.ctl.zone.recs.length:Int)+4*(f.ctl.last.length:Int)
def kJrn (f:Flt):Int:=kq nxD f.jrn.diffs Dif.nul (kCtl f) f.jrn.diffs.length
def kEdg (f:Flt):Int:=kq nxE f.edges Edg.nul (kJrn f) f.edges.length
theorem zQ3 {f:Flt} (hf:f.In lim):0<=kCtl f/\kCtl f<=100000000/\0<=kJrn f/\kJrn f<=40000000000000/\0<=kEdg f/\kEdg f<=80000000000000:=by
 have hlim:lim=1048576:=rfl
 have h1:=hf.ctl.zone.len
 have h2:=hf.ctl.len
 have h3:=zSN hf.jrn.len hf.jrn.all (kCtl f)
 have h4:=zSO hf.elen hf.eall (kJrn f)
 have h5:kJrn f=kq nxD f.jrn.diffs Dif.nul (kCtl f) f.jrn.diffs.length:=rfl
 have h6:kEdg f=kq nxE f.edges Edg.nul (kJrn f) f.edges.length:=rfl
 have h7:kCtl f=1+4*(f.ctl.zone.recs.length:Int)+4*(f.ctl.last.length:Int):=rfl
 rw[<- h5]at h3
 rw[<- h6]at h4
 omega
theorem zIb {j:Jrn} (hj:j.In lim) {k:Int} (h0:0<=k) (h1:k<=10000000000000000):∃y:D,z3g.F [j.d,.int k]=some (.pair (.int (kq nxD j.diffs Dif.nul k j.diffs.length)) (.pair y .unit))/\y.fld 2=.lst ((mkL nxD mkD j.diffs Dif.nul k).map Dif.d):=by
 have f2:j.d.fld 2=.lst (j.diffs.map Dif.d):=rfl
 rw[zCM,f2]
 refine⟨_,z04 (zMg hj.len hj.all h0 h1) rfl,?_⟩
 unfold D.mix
 split <;> rfl
structure FltMk (f:Flt) (y w:D):Prop where
 recs:((y.fld 0).fld 0).fld 2=.lst ((z33 1 f.ctl.zone.recs.length).map Rec.d)
 last:(y.fld 0).fld 1=.lst ((z4G (1+4*f.ctl.zone.recs.length) f.ctl.last.length).map Dn.d)
 diffs:(y.fld 1).fld 2=.lst ((mkL nxD mkD f.jrn.diffs Dif.nul (kCtl f)).map Dif.d)
 edges:y.fld 2=.lst ((mkL nxE mkE' f.edges Edg.nul (kJrn f)).map Edg.d)
 parcels:y.fld 3=w
theorem zDy {f:Flt} (hf:f.In lim):∃(k:Int) (y w:D),0<=k/\z3W.F [f.d,.int 1]=some (.pair (.int k) (.pair y .unit))/\FltMk f y w/\(f.parcels=[]->k=kEdg f/\w=.lst []):=by
 obtain⟨b1,b2,b3,b4,b5,b6⟩:=zQ3 hf
 obtain⟨y1,h1,q1,q2⟩:=zIa hf.ctl
 obtain⟨y2,h2,q3⟩:=zIb hf.jrn (k:=kCtl f) b1 (by omega)
 have h3:=zMi hf.elen hf.eall (k:=kJrn f) b3 (by omega)
 have h4:∃(k:Int) (w:D),0<=k/\z2w.F [.lst (f.parcels.map Prc.d),.int (kEdg f)]=some (.pair (.int k) (.pair w .unit))/\(f.parcels=[]->k=kEdg f/\w=.lst []):=by
  by_cases hp:f.parcels=[]
  ·refine⟨kEdg f,.lst [],b5,?_,fun _=>⟨rfl,rfl⟩⟩;rw[hp,z7s];refine z06 (z1A (l':=[.lst [],.int (kEdg f)]) ?_) rfl;exact z00 (by simp) rfl
  ·obtain⟨k,w,g0,_,h⟩:=zLE hf.plen hf.pall (kEdg f) b5 (by omega);exact⟨k,w,g0,h,fun h=>absurd h hp⟩
 obtain⟨k,w,g0,h4,h5⟩:=h4
 have f0:f.d.fld 0=f.ctl.d:=rfl
 have f1:f.d.fld 1=f.jrn.d:=rfl
 have f2:f.d.fld 2=.lst (f.edges.map Edg.d):=rfl
 have f3:f.d.fld 3=.lst (f.parcels.map Prc.d):=rfl
 rw[zFT,f0,f1,f2,f3]
 refine⟨k,_,w,g0,z04 h1 (z04 (r:=.pair (.int (kJrn f)) (.pair y2 .unit)) h2 (z04 (r:=.pair (.int (kEdg f)) (.pair (.lst ((mkL nxE mkE' f.edges Edg.nul (kJrn f)).map Edg.d)) .unit)) h3 (z04 (r:=.pair (.int k) (.pair w .unit)) h4 rfl))),⟨?_,?_,?_,?_,?_⟩,h5⟩
 ·rw[<- q1]; unfold D.mix; split <;> rfl
 ·rw[<- q2]; unfold D.mix; split <;> rfl
 ·have:(mkL nxD mkD f.jrn.diffs Dif.nul (kCtl f))=(mkL nxD mkD f.jrn.diffs Dif.nul (kCtl f)):=rfl;rw[<- q3]; unfold D.mix; split <;> rfl
 ·unfold D.mix; split <;> rfl
 ·unfold D.mix; split <;> rfl
theorem zMb {f:Flt} (hf:f.In lim):z3V.F [.pair (.pair (.pair (.str f.ctl.zone.apex) (.pair (.int f.ctl.zone.counter) (.pair (.lst ((z33 1 f.ctl.zone.recs.length).map Rec.d)) .unit))) (.pair (.lst ((z4G (1+4*f.ctl.zone.recs.length) f.ctl.last.length).map Dn.d)) (.pair (.int f.ctl.many) .unit)))
 (.pair (.pair (.str f.jrn.apex) (.pair (.int f.jrn.first) (.pair (.lst ((mkL nxD mkD f.jrn.diffs Dif.nul (kCtl f)).map Dif.d)) .unit))) (.pair (.lst ((mkL nxE mkE' f.edges Edg.nul (kJrn f)).map Edg.d)) (.pair (.lst []) .unit))),.int 1]=some (.int (kEdg f)):=by
 obtain⟨b1,b2,b3,b4,b5,b6⟩:=zQ3 hf
 have hc:=zIY (a:=f.ctl.zone.apex) (cn:=f.ctl.zone.counter) (z:=.int f.ctl.many) hf.ctl.zone.len hf.ctl.len
 have hd:=zMY hf.jrn.len hf.jrn.all (k:=kCtl f) b1 (by omega)
 have he:=zMa hf.elen hf.eall (k:=kJrn f) b3 (by omega)
 have hj:z3d.F [.pair (.str f.jrn.apex) (.pair (.int f.jrn.first) (.pair (.lst ((mkL nxD mkD f.jrn.diffs Dif.nul (kCtl f)).map Dif.d)) .unit)),.int (kCtl f)]=some (.int (kJrn f)):=by
  rw[zCI];exact z04 hd (z05 (fun h=>absurd (of_decide_eq_true h) (by rw[D.i_int]; exact Int.not_lt.2 b3)) rfl)
 have hp:z3e.F [.lst [],.int (kEdg f)]=some (.int (kEdg f)):=by
  rw[zCJ];refine z5w (z1A (l':=[.int (kEdg f)]) ?_) rfl;exact z00 (by simp) rfl
 rw[zFP]
 exact z04 hc (z05 (fun h=>absurd (of_decide_eq_true h) (by rw[D.i_int]; exact Int.not_lt.2 b1)) (z04 hj (z05 (fun h=>absurd (of_decide_eq_true h) (by rw[D.i_int]; exact Int.not_lt.2 b3)) (z04 he (z05 (fun h=>absurd (of_decide_eq_true h) (by rw[D.i_int]; exact Int.not_lt.2 b5)) (z04 hp (z05 (fun h=>absurd (of_decide_eq_true h) (by rw[D.i_int]; exact Int.not_lt.2 b5)) rfl)))))))
theorem z96 {x:D} (hx:Sm smax tFlt x):z3o.F [x]=some (.bool true):=by
 obtain⟨f,rfl,hi⟩:=zVZ hx
 have hlim:lim=1048576:=rfl
 rw[z87]
 obtain⟨r,h1,h2⟩:=zS4 hi (left:=1048576) (by decide) (by decide)
 refine z04 h1 ?_
 by_cases hr:r<0
 ·exact z0F (decide_eq_true hr) rfl
 refine z05 (fun h=>hr (of_decide_eq_true h)) ?_
 have hf:=h2 (by omega)
 have hto:=zS8 hf
 obtain⟨f',n,b,hf',hp',hI,hS⟩:=zKV hf
 have heq:=zMX hf.smax
 have heq':=zMX hf'.smax
 obtain⟨k0,y0,w0,g0,hm0,_,_⟩:=zDy hf
 obtain⟨k1,y1,w1,g1,hm1,hy,hw⟩:=zDy hf'
 obtain⟨rfl,rfl⟩:=hw hp'
 have hheld:=zMb hf'
 have A0:(stD f' n b).fld 0=f'.d:=rfl
 have A1:((stD f' n b).fld 1).i=n:=rfl
 have A2:((stD f' n b).fld 2).b=b:=rfl
 have P0:∀x y:D,(D.pair x (.pair y .unit)).fld 0=x:=fun _ _=>rfl
 have P1:∀x y:D,(D.pair x (.pair y .unit)).fld 1=y:=fun _ _=>rfl
 have hobj:D.pair (.pair (.pair (((f'.d.fld 0).fld 0).fld 0) (.pair (((f'.d.fld 0).fld 0).fld 1) (.pair (((y1.fld 0).fld 0).fld 2) .unit))) (.pair ((y1.fld 0).fld 1) (.pair ((f'.d.fld 0).fld 2) .unit))) (.pair (.pair ((f'.d.fld 1).fld 0) (.pair ((f'.d.fld 1).fld 1) (.pair ((y1.fld 1).fld 2) .unit))) (.pair (y1.fld 2) (.pair (y1.fld 3) .unit)))=.pair (.pair (.pair (.str f'.ctl.zone.apex) (.pair (.int f'.ctl.zone.counter) (.pair (.lst ((z33 1 f'.ctl.zone.recs.length).map Rec.d)) .unit))) (.pair (.lst ((z4G (1+4*f'.ctl.zone.recs.length) f'.ctl.last.length).map Dn.d)) (.pair (.int f'.ctl.many) .unit)))
  (.pair (.pair (.str f'.jrn.apex) (.pair (.int f'.jrn.first) (.pair (.lst ((mkL nxD mkD f'.jrn.diffs Dif.nul (kCtl f')).map Dif.d)) .unit))) (.pair (.lst ((mkL nxE mkE' f'.edges Edg.nul (kJrn f')).map Edg.d)) (.pair (.lst []) .unit))):=by
  rw[hy.recs,hy.last,hy.diffs,hy.edges,hy.parcels]; rfl
 refine z04 hto (z04 hS (z04 hto (z04 hI ?_)))
 rw[A0,A1,A2]
 have same:((z2T.F [f'.d,f'.d]).bind fun r10=>if (!r10.b)=true then ou 0 [(.bool true)]else if (n != n)=true then ou 0 [(.bool true)]else ou 0 [(.bool (!(b==b)))]:Outc)=some (0,[.bool false]):=z01 heq' (z00 (by simp) (z00 (by simp) (by simp)))
 refine z06 (l:=[.bool false]) same (z05 (by simp) (z04 hto (z04 heq (z05 (by simp) (z04 hm0 ?_)))))
 refine z06 (l:=[.bool false]) (z00 (fun h=>absurd (of_decide_eq_true h) (by show ¬k0<0; omega)) same) (z05 (by simp) (z04 hm1 ?_))
 rw[P0,P1,hobj]
 refine z04 hheld (z05 (fun h=>absurd (of_decide_eq_true h) (by rw[D.i_int]; omega)) (z05 (by simp) (z04 hto (z04 hI ?_))))
 rw[A0,A1,A2]
 refine z06 (l:=[.bool false]) same (z05 (by simp) ?_)
 exact z04 hheld (z05 (fun h=>absurd (of_decide_eq_true h) (by rw[D.i_int]; omega)) (z05 (by simp) rfl))
end Go.Proofs.YtcnjllnhfoiojaaGreatDoor
