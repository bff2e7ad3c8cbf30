/- What the functions compute, in plain words. -/
import Derived.Test.YtcnjllnhfoiojaaGreatDoorP5
set_option linter.unusedSectionVars false
set_option linter.unusedVariables false
set_option linter.unusedSimpArgs false
namespace Go.Proofs.YtcnjllnhfoiojaaGreatDoor
open Go Go.Own
theorem zOg (x:Dif):z4o.F [x.d]=some (.bool (zE5 x)):=by
 rw[zFf]
 have d0:(x.d.fld 0).i=x.fr:=rfl
 have d1:(x.d.fld 1).i=x.to':=rfl
 have d2:(x.d.fld 2).l.length=x.dels.length:=by show(x.dels.map Rec.d).length=_; simp
 have d3:(x.d.fld 3).l.length=x.adds.length:=by show(x.adds.map Rec.d).length=_; simp
 rw[d0,d1,d2,d3,z8g,z8g]
 refine z06 (l:=[.bool (zE5 x)]) ?_ rfl
 unfold zE5
 by_cases k3:x.fr=0
 ·refine z03 (by simpa using k3) ?_;by_cases k4:x.to'=0
  ·refine z03 (by simpa using k4) ?_;by_cases k5:x.dels.length=0
   ·exact z03 (decide_eq_true k5) (by simp[k3,k4,k5])
   ·exact z00 (by simpa using k5) (by simp[k5])
  ·exact z00 (by simpa using k4) (by simp[k4])
 ·exact z00 (by simpa using k3) (by simp[k3])
theorem zOh (z:Zn):z4p.F [z.d]=some (.bool (zBr z)):=by
 rw[zFg]
 have z0:(z.d.fld 0).s=z.apex:=rfl
 have z1:(z.d.fld 1).i=z.counter:=rfl
 have z2:(z.d.fld 2).l.length=z.recs.length:=by show(z.recs.map Rec.d).length=_; simp
 rw[z0,z1,z2,z8g]
 refine z06 (l:=[.bool (zBr z)]) ?_ rfl
 unfold zBr
 by_cases k5:z.apex=[]
 ·refine z03 (by simpa using k5) ?_;by_cases k6:z.counter=0
  ·exact z03 (by simpa using k6) (by simp[k5,k6])
  ·exact z00 (by simpa using k6) (by simp[k6])
 ·exact z00 (by simpa using k5) (by simp[k5])
theorem zGH {f:Flt} (hf:f.In lim):z4n.F [f.d]=some (.bool f.good):=by
 have hlim:lim=1048576:=rfl
 have hse:=Nat.le_trans hf.elen z0R
 have hsp:=Nat.le_trans hf.plen z0R
 rw[zFe]
 have f0:f.d.fld 0=f.ctl.d:=rfl
 have f00:((f.ctl.d.fld 0).fld 0).s=f.ctl.zone.apex:=rfl
 have f01:((f.ctl.d.fld 0).fld 1).i=f.ctl.zone.counter:=rfl
 have f1:f.d.fld 1=f.jrn.d:=rfl
 have f10:(f.jrn.d.fld 0).s=f.jrn.apex:=rfl
 have f2:(f.d.fld 2).l=f.edges.map Edg.d:=rfl
 have f3:(f.d.fld 3).l=f.parcels.map Prc.d:=rfl
 have hw:IntKind.wrap .i64 ((f.edges.length:Int)-1)=(f.edges.length:Int)-1:=by have:=hf.elen; rw[z0h] <;> omega
 simp only[f0,f00,f01,f1,f10,f2,f3,List.length_map,hw]
 have h1:=zCi hf.ctl
 have h2:=z8F hf.jrn
 have h3:=(zUU hf.jrn.len).2
 have h4:=z7y f.edges.length 1 3
 have eexc:∀s:List UInt8,(s==[101,120,46,99,111,109])=(s==exc):=fun _=>rfl
 unfold Flt.good
 cases k1:f.ctl.good with
 | false=>rw[k1]at h1; exact z06 (l:=[.bool true]) (z01 h1 (z03 rfl rfl)) (z0F rfl rfl)
 | true=>
 rw[k1]at h1
 cases k2:f.ctl.zone.apex==exc with
 | false=>exact z06 (l:=[.bool true]) (z01 h1 (z00 (by simp) (z03 (by rw[eexc,k2]; rfl) rfl))) (z0F rfl rfl)
 | true=>
 have c2:¬(!(f.ctl.zone.apex==[101,120,46,99,111,109]))=true:=by rw[eexc,k2]; simp
 cases k4:f.jrn.apex==exc with
 | false=>
   have c4:(!(f.jrn.apex==[101,120,46,99,111,109]))=true:=by rw[eexc,k4]; rfl
   have hfin:rn (ou 0 [.bool false])=some (.bool (true&&(true&&(f.jrn.body&&(false&&(decide (f.jrn.last=f.ctl.zone.counter)&&(inP f.edges.length 1 3&&(decide (f.parcels.length<=12)&&(f.edges.all (edgB f)&&f.parcels.all (prcB f)))))))))):=by
    simp
   cases k3:(z8h f.jrn.apex&&f.jrn.body)with
   | false=>rw[k3]at h2; exact z06 (l:=[.bool true]) (z01 h1 (z00 (by simp) (z00 c2 (z01 h2 (z03 rfl rfl))))) (z0F rfl hfin)
   | true=>rw[k3]at h2; exact z06 (l:=[.bool true]) (z01 h1 (z00 (by simp) (z00 c2 (z01 h2 (z00 (by simp) (z03 c4 rfl)))))) (z0F rfl hfin)
 | true=>
 have c4:¬(!(f.jrn.apex==[101,120,46,99,111,109]))=true:=by rw[eexc,k4]; simp
 have hnm:z8h f.jrn.apex=true:=by
  have:f.jrn.apex=exc:=by simpa using k4
  rw[this]; decide
 rw[hnm,Bool.true_and]at h2
 cases k3:f.jrn.body with
 | false=>rw[k3]at h2; exact z06 (l:=[.bool true]) (z01 h1 (z00 (by simp) (z00 c2 (z01 h2 (z03 rfl rfl))))) (z0F rfl rfl)
 | true=>
 rw[k3]at h2
 by_cases k5:f.jrn.last=f.ctl.zone.counter
 case neg=>
  have e5:decide (f.jrn.last=f.ctl.zone.counter)=false:=decide_eq_false k5;rw[e5];exact z06 (l:=[.bool true]) (z01 h1 (z00 (by simp) (z00 c2 (z01 h2 (z00 (by simp) (z00 c4 (z01 h3 (z03 (by simpa using k5) rfl)))))))) (z0F rfl rfl)
 have e5:decide (f.jrn.last=f.ctl.zone.counter)=true:=decide_eq_true k5
 have c5:¬((D.int f.jrn.last).i != f.ctl.zone.counter)=true:=by simp[k5]
 rw[e5]
 cases k6:inP f.edges.length 1 3 with
 | false=>rw[k6]at h4; exact z06 (l:=[.bool true]) (z01 h1 (z00 (by simp) (z00 c2 (z01 h2 (z00 (by simp) (z00 c4 (z01 h3 (z00 c5 (z01 h4 (z03 rfl rfl)))))))))) (z0F rfl rfl)
 | true=>
 rw[k6]at h4
 by_cases k7:f.parcels.length<=12
 case neg=>
  have e7:decide (f.parcels.length<=12)=false:=decide_eq_false k7;have e7':decide ((f.parcels.length:Int) > 12)=true:=decide_eq_true (by omega);rw[e7];exact z06 (l:=[.bool true]) (z01 h1 (z00 (by simp) (z00 c2 (z01 h2 (z00 (by simp) (z00 c4 (z01 h3 (z00 c5 (z01 h4 (z00 (by simp) (by rw[e7'])))))))))))  (z0F rfl rfl)
 have e7:decide (f.parcels.length<=12)=true:=decide_eq_true k7
 have e7':decide ((f.parcels.length:Int) > 12)=false:=decide_eq_false (by omega)
 rw[e7]
 refine z06 (l:=[.bool false]) (z01 h1 (z00 (by simp) (z00 c2 (z01 h2 (z00 (by simp) (z00 c4 (z01 h3 (z00 c5 (z01 h4 (z00 (by simp) (by rw[e7']))))))))))) (z05 (by simp) ?_)
 refine z0E (z1l (fun i=>[.int i]) f.edges.length (fun i=>edgB f (f.edges.getD i Edg.nul)) (t1:=0) (t2:=1) (o1:=[.bool false]) (o2:=[]) rfl ?_ (by exact z00 (by simp) rfl)) ?_
 ·intro i hi;rw[z0H hi];have e0:(gd [D.int (i:Int)] 0).i.toNat=i:=by simp
  have e1:(gd [D.int (i:Int)] 0).i=i:=rfl;have g0:f.edges[i].d.fld 0=f.edges[i].zone.d:=rfl;have g1:f.edges[i].d.fld 1=f.edges[i].saved.d:=rfl;have hz:=hf.eall _ (List.getElem_mem hi);have v1:=zGE (f:=f) hz.zone;have v2:=zGE (f:=f) hz.saved;rw[e0,e1,z2Q hi,g0,g1,z0B hi hse];refine z03 (by simpa using hi) (z03 (by simpa using z0A hi) (z0m (r:=(0,[.bool !(edgB f f.edges[i])])) ?_ (sel0 (by cases edgB f f.edges[i] <;> simp))));unfold edgB
  cases k:verB f f.edges[i].zone with
  | false=>rw[k]at v1; exact z01 v1 (z03 rfl rfl)
  | true=>rw[k]at v1; exact z01 v1 (z00 (by simp) (z01 v2 rfl))
 ·rw[z50 f.edges (edgB f) Edg.nul]
  cases k8:f.edges.all (edgB f)with
  | false=>rfl
  | true=>
    refine z0E (z1l (fun i=>[.int i]) f.parcels.length (fun i=>prcB f (f.parcels.getD i Prc.nul)) (t1:=0) (t2:=1) (o1:=[.bool false]) (o2:=[]) rfl ?_ (by exact z00 (by simp) rfl)) ?_
    ·intro i hi;rw[z0H hi];have hp:=hf.pall _ (List.getElem_mem hi);have e0:(gd [D.int (i:Int)] 0).i.toNat=i:=by simp
     have e1:(gd [D.int (i:Int)] 0).i=i:=rfl;rw[e0,e1,z2Q hi,z0B hi hsp];generalize f.parcels[i]=p at hp |-;have g0:p.d.fld 0=.int p.to':=rfl;have g1:(p.d.fld 1).b=p.whole:=rfl;have g2:p.d.fld 2=p.zone.d:=rfl;have g3:p.d.fld 3=p.diff.d:=rfl;have d0:(p.diff.d.fld 0).i=p.diff.fr:=rfl;have d1:(p.diff.d.fld 1).i=p.diff.to':=rfl;rw[g0,g1,g2,g3,d0,d1];have h1:=z7y p.to' 0 ((f.edges.length:Int)-1);refine z03 (by simpa using hi) (z03 (by simpa using z0A hi) ?_);unfold prcB
     cases k1:inP p.to' 0 ((f.edges.length:Int)-1)with
     | false=>rw[k1]at h1; exact z01 h1 (z03 rfl rfl)
     | true=>
       rw[k1]at h1;refine z01 h1 (z00 (by simp) ?_);rw[Bool.true_and]
       cases hw:p.whole with
       | true=>
         simp only[if_true];have v1:=zGE (f:=f) hp.zone;have v2:=zOg p.diff;refine z0m (r:=(0,[.bool !(verB f p.zone&&zE5 p.diff)])) ?_ (sel0 ?_)
         ·cases k:verB f p.zone with
          | false=>rw[k]at v1; exact z01 v1 (z03 rfl rfl)
          | true=>rw[k]at v1; exact z01 v1 (z00 (by simp) (z01 v2 rfl))
         ·cases (verB f p.zone&&zE5 p.diff)with
          | false=>exact z03 rfl rfl
          | true=>exact z00 (by simp) (z0m (r:=(0,[.bool false])) (by simp) (sel0 (z00 (by simp) rfl)))
       | false=>
         simp only[Bool.false_eq_true,if_false];have v1:=zOh p.zone;have v2:=z7z hp.diff;refine z0m (r:=(0,[.bool false])) (by simp) (sel0 (z00 (by simp) (z0m (r:=(0,[.bool !(p.diff.good&&(decide (p.diff.fr<=p.diff.to')&&(decide (p.diff.to'<=f.ctl.zone.counter)&&zBr p.zone)))])) (z03 rfl ?_) (sel0 ?_))))
         ·cases k:zBr p.zone with
          | false=>
            rw[k]at v1;exact z01 v1 (z03 rfl (by simp))
          | true=>
            rw[k]at v1;refine z01 v1 (z00 (by simp) ?_)
            cases k2:p.diff.good with
            | false=>rw[k2]at v2; exact z01 v2 (z03 rfl rfl)
            | true=>
              rw[k2]at v2;refine z01 v2 (z00 (by simp) ?_);by_cases k3:p.diff.to'<=f.ctl.zone.counter
              ·refine z00 (fun h=>by have h':p.diff.to' > f.ctl.zone.counter:=of_decide_eq_true h; omega) ?_;have:decide (p.diff.fr > p.diff.to') = !(decide (p.diff.fr<=p.diff.to')):=by
                rw[Bool.eq_iff_iff]; simp
               rw[this]; simp[k3]
              ·exact z03 (decide_eq_true (by omega)) (by simp[k3])
         ·cases (p.diff.good&&(decide (p.diff.fr<=p.diff.to')&&(decide (p.diff.to'<=f.ctl.zone.counter)&&zBr p.zone)))with
          | false=>exact z03 rfl rfl
          | true=>exact z00 (by simp) rfl
    ·rw[z50 f.parcels (prcB f) Prc.nul]
     cases f.parcels.all (prcB f) <;> rfl
theorem Flt.In.smax {f:Flt} (h:f.In lim):f.In smax:=
 ⟨h.ctl.smax,⟨Nat.le_trans h.jrn.apex z0R,Nat.le_trans h.jrn.len z0R,fun x hx=>(h.jrn.all x hx).smax⟩,Nat.le_trans h.elen z0R,fun x hx=>⟨(h.eall x hx).zone.smax,(h.eall x hx).saved.smax⟩,Nat.le_trans h.plen z0R,fun x hx=>⟨(h.pall x hx).zone.smax,(h.pall x hx).diff.smax⟩⟩
end Go.Proofs.YtcnjllnhfoiojaaGreatDoor
namespace Go.Proofs.YtcnjllnhfoiojaaGreatDoor
open Go Go.Own
theorem zBL {e:Nat} {l m:List D} (hl:l.length<=lim) (hm:m.length<=lim) (he:e<=1000):appOk e l m=true:=by
 have h2:(lim:Nat)=1048576:=rfl
 have:(l.length+m.length)*e<=(lim+lim)*1000:=Nat.mul_le_mul (by omega) he
 unfold appOk
 rw[Bool.and_eq_true,decide_eq_true_eq,decide_eq_true_eq,z1I]
 refine⟨by omega,Nat.le_trans this ?_⟩
 rw[h2]; decide
theorem z8b {xs:List D} (h:xs.length<=lim):z0G.F [.lst xs]=some (.lst xs):=by
 rw[z5X]
 have ha:appOk 48 ([]:List D) (D.lst xs).l=true:=z2x (by simp) h (by decide)
 rw[zUf]
 ·refine z0F ha rfl
 ·intro h;rw[if_pos ha];have:xs=[]:=by simpa using h
  subst this;rfl
theorem zMW {xs:List D} (h:xs.length<=lim):z0x.F [.lst xs]=some (.lst xs):=by
 rw[z67]
 have ha:appOk 32 ([]:List D) (D.lst xs).l=true:=z2x (by simp) h (by decide)
 rw[zUf]
 ·refine z0F ha rfl
 ·intro h;rw[if_pos ha];have:xs=[]:=by simpa using h
  subst this;rfl
theorem zAW {z:Zn} (h:z.recs.length<=lim):z1N.F [z.d]=some z.d:=by
 have f2:z.d.fld 2=.lst (z.recs.map Rec.d):=rfl
 rw[zNd,f2]
 exact z0F (z2x (by simp) (by simpa using h) (by decide)) rfl
theorem z7V {z:Zn} (h:z.recs.length<=lim):z12.F [z.d]=some z.d:=by
 have f2:z.d.fld 2=.lst (z.recs.map Rec.d):=rfl
 rw[zJT,f2]
 exact z04 (z8b (by simpa using h)) rfl
theorem zMj {c:Ctl} (hc:c.In lim):z47.F [c.d]=some c.d:=by
 have f0:c.d.fld 0=c.zone.d:=rfl
 have f1:c.d.fld 1=.lst (c.last.map Dn.d):=rfl
 rw[zDg,f0,f1]
 exact z04 (z7V hc.zone.len) (z04 (zMW (by simpa using hc.len)) rfl)
theorem zTj {c:Ctl} (hc:c.In lim):z6J.F [c.d]=some c.d:=by
 have f0:c.d.fld 0=c.zone.d:=rfl
 have f1:(c.d.fld 1).l=c.last.map Dn.d:=rfl
 rw[zLl,f0,f1]
 exact z04 (zAW hc.zone.len) (z0F (z2x (by simp) (by simpa using hc.len) (by decide)) rfl)
theorem zS0 {x:Dif} (hx:x.In lim):z4J.F [x.d]=some x.d:=by
 have f2:(x.d.fld 2).l=x.dels.map Rec.d:=rfl
 have f3:(x.d.fld 3).l=x.adds.map Rec.d:=rfl
 rw[zNh,f2,f3]
 exact z0F (z2x (by simp) (by simpa using hx.dels.len) (by decide)) (z0F (z2x (by simp) (by simpa using hx.adds.len) (by decide)) rfl)
theorem zMk {x:Dif} (hx:x.In lim):z35.F [x.d]=some x.d:=by
 have f2:x.d.fld 2=.lst (x.dels.map Rec.d):=rfl
 have f3:x.d.fld 3=.lst (x.adds.map Rec.d):=rfl
 rw[zJS,f2,f3]
 exact z04 (z8b (by simpa using hx.dels.len)) (z04 (z8b (by simpa using hx.adds.len)) rfl)
theorem z7N {α:Type} {f:α->D} {xs:List α} {i:Nat} (h:i<xs.length):(xs.take i).map f++[f xs[i]]=(xs.take (i+1)).map f:=by
 rw[List.take_add_one,List.getElem?_eq_getElem h,List.map_append]; rfl
theorem zPC {α:Type} {f:α->D} {e:List D->Option D} {eb:Nat} {xs:List α} (he:eb<=1000) (hl:xs.length<=lim) (hc:∀x∈xs,e [f x]=some (f x)):z0Y (fun l1=>
 if (decide ((gd l1 1).i<(((xs.map f).length:Nat):Int)))then
  if (inb (gd l1 1).i (xs.map f).length)then
  (e [(gd (xs.map f) (gd l1 1).i.toNat)]).bind fun r3=>
  if (appOk eb (gd l1 0).l (r3::([]:List D)))then
  ou 0 [(D.lst ((gd l1 0).l++(r3::([]:List D)))),(.int (IntKind.wrap .i64 ((gd l1 1).i+1)))]
  else none
  else none
 else
  ou 1 [(gd l1 0)]) [(D.lst []),(.int 0)]=some (0,[.lst (xs.map f)]):=by
 rw[List.length_map]
 refine z0u (fun i (s:List D)=>[.lst s,.int (i:Int)]) xs.length (fun i=>(xs.take i).map f) rfl ?_ ?_
 ·intro i hi;have hg:gd (xs.map f) i=f xs[i]:=z2Q hi;simp only[z0k,z1c,D.i_int,D.l_lst,Int.toNat_natCast,hg];refine z03 (by simpa using hi) (z03 (z0A hi) (z01 (hc _ (List.getElem_mem hi)) (z03 (zBL (by simp; omega) (by simp; decide) he) ?_)));rw[z7N hi,z0B hi (Nat.le_trans hl z0R)]
 ·simp only[z0k,z1c,D.i_int];refine z00 (by simp) ?_;rw[List.take_length]
theorem zGG {xs:List Dif} (hl:xs.length<=lim) (hx:∀x∈xs,x.In lim):z2W.F [.lst (xs.map Dif.d)]=some (.lst (xs.map Dif.d)):=by
 rw[zJm]
 exact z06 (zPC (e:=z4J.F) (by decide) hl (fun x h=>zS0 (hx x h))) rfl
theorem zCh {xs:List Dif} (hl:xs.length<=lim) (hx:∀x∈xs,x.In lim):z2c.F [.lst (xs.map Dif.d)]=some (.lst (xs.map Dif.d)):=by
 rw[zHw]
 exact z06 (zPC (e:=z35.F) (by decide) hl (fun x h=>zMk (hx x h))) rfl
theorem zIZ {p:Prc} (hp:p.In lim):z2J.F [p.d]=some p.d:=by
 have f2:p.d.fld 2=p.zone.d:=rfl
 have f3:p.d.fld 3=p.diff.d:=rfl
 rw[zB7,f2,f3]
 exact z04 (zAW hp.zone.len) (z04 (zS0 hp.diff) rfl)
theorem zOk {p:Prc} (hp:p.In lim):z4X.F [p.d]=some p.d:=by
 have f2:p.d.fld 2=p.zone.d:=rfl
 have f3:p.d.fld 3=p.diff.d:=rfl
 rw[zFH,f2,f3]
 exact z04 (z7V hp.zone.len) (z04 (zMk hp.diff) rfl)
theorem zTl {f:Flt} (hf:f.In lim):z6L.F [f.d]=some f.d:=by
 have f0:f.d.fld 0=f.ctl.d:=rfl
 have f1:(f.d.fld 1).fld 2=.lst (f.jrn.diffs.map Dif.d):=rfl
 have f2:(f.d.fld 2).l=f.edges.map Edg.d:=rfl
 have f3:(f.d.fld 3).l=f.parcels.map Prc.d:=rfl
 rw[zLn,f0,f1]
 simp only[f2,f3]
 refine z04 (zTj hf.ctl) (z04 (zGG hf.jrn.len hf.jrn.all) (z06 (l:=[.lst (f.edges.map Edg.d)]) ?_ (z06 (zPC (e:=z2J.F) (by decide) hf.plen (fun x h=>zIZ (hf.pall x h))) rfl)))
 rw[List.length_map]
 refine z0u (fun i (s:List D)=>[.lst s,.int (i:Int)]) f.edges.length (fun i=>(f.edges.take i).map Edg.d) rfl ?_ ?_
 ·intro i hi;have hg:gd (f.edges.map Edg.d) i=f.edges[i].d:=z2Q hi;have e0:f.edges[i].d.fld 0=f.edges[i].zone.d:=rfl;have e1:f.edges[i].d.fld 1=f.edges[i].saved.d:=rfl;have hi2:=hf.eall _ (List.getElem_mem hi);have hle:=hf.elen;simp only[z0k,z1c,D.i_int,D.l_lst,Int.toNat_natCast,hg,e0,e1];refine z03 (by simpa using hi) (z03 (z0A hi) (z01 (zAW hi2.zone.len) (z01 (zAW hi2.saved.len) (z03 (zBL (by simp; omega) (by simp; decide) (by decide)) ?_))));have:(D.pair f.edges[i].zone.d (.pair f.edges[i].saved.d .unit))=f.edges[i].d:=rfl;rw[this,z7N hi,z0B hi (Nat.le_trans hle z0R)]
 ·simp only[z0k,z1c,D.i_int];refine z00 (by simp) ?_;rw[List.take_length]
theorem zJv {f:Flt} (hf:f.In lim):z48.F [f.d]=some f.d:=by
 have f0:f.d.fld 0=f.ctl.d:=rfl
 have f1:(f.d.fld 1).fld 2=.lst (f.jrn.diffs.map Dif.d):=rfl
 have f2:(f.d.fld 2).l=f.edges.map Edg.d:=rfl
 have f3:(f.d.fld 3).l=f.parcels.map Prc.d:=rfl
 rw[zHx,f0,f1]
 simp only[f2,f3,List.length_map]
 refine z04 (zMj hf.ctl) (z04 (zCh hf.jrn.len hf.jrn.all) (z06 (l:=[.pair f.ctl.d (.pair f.jrn.d (.pair (.lst (f.edges.map Edg.d)) (.pair (.lst []) .unit)))]) ?_ (z06 (l:=[f.d]) ?_ rfl)))
 ·refine z0u (fun i (s:List D)=>[.pair f.ctl.d (.pair f.jrn.d (.pair (.lst s) (.pair (.lst []) .unit))),.int (i:Int)]) f.edges.length (fun i=>(f.edges.take i).map Edg.d) rfl ?_ ?_
  ·intro i hi;have hg:gd (f.edges.map Edg.d) i=f.edges[i].d:=z2Q hi;have e0:f.edges[i].d.fld 0=f.edges[i].zone.d:=rfl;have e1:f.edges[i].d.fld 1=f.edges[i].saved.d:=rfl;have hi2:=hf.eall _ (List.getElem_mem hi);have hle:=hf.elen;have g2:∀s:List D,((D.pair f.ctl.d (.pair f.jrn.d (.pair (.lst s) (.pair (.lst []) .unit)))).fld 2).l=s:=fun _=>rfl;simp only[z0k,z1c,D.i_int,D.l_lst,Int.toNat_natCast,hg,e0,e1,g2];refine z03 (by simpa using hi) (z03 (z0A hi) (z01 (z7V hi2.zone.len) (z01 (z7V hi2.saved.len) (z03 (zBL (by simp; omega) (by simp; decide) (by decide)) ?_))));have:(D.pair f.edges[i].zone.d (.pair f.edges[i].saved.d .unit))=f.edges[i].d:=rfl;rw[this,z7N hi,z0B hi (Nat.le_trans hle z0R)]; rfl
  ·simp only[z0k,z1c,D.i_int];refine z00 (by simp) ?_;rw[List.take_length]
 ·refine z0u (fun i (s:List D)=>[.pair f.ctl.d (.pair f.jrn.d (.pair (.lst (f.edges.map Edg.d)) (.pair (.lst s) .unit))),.int (i:Int)]) f.parcels.length (fun i=>(f.parcels.take i).map Prc.d) rfl ?_ ?_
  ·intro i hi;have hg:gd (f.parcels.map Prc.d) i=f.parcels[i].d:=z2Q hi;have hi2:=hf.pall _ (List.getElem_mem hi);have hle:=hf.plen;have g3:∀s:List D,((D.pair f.ctl.d (.pair f.jrn.d (.pair (.lst (f.edges.map Edg.d)) (.pair (.lst s) .unit)))).fld 3).l=s:=fun _=>rfl;simp only[z0k,z1c,D.i_int,D.l_lst,Int.toNat_natCast,hg,g3];refine z03 (by simpa using hi) (z03 (z0A hi) (z01 (zOk hi2) (z03 (zBL (by simp; omega) (by simp; decide) (by decide)) ?_)));rw[z7N hi,z0B hi (Nat.le_trans hle z0R)]; rfl
  ·simp only[z0k,z1c,D.i_int];refine z00 (by simp) ?_;rw[List.take_length]; rfl
end Go.Proofs.YtcnjllnhfoiojaaGreatDoor
namespace Go.Proofs.YtcnjllnhfoiojaaGreatDoor
open Go Go.Own
def z97 (xs ys:List Rec):List Rec:=xs.filter fun r=>!hasR ys r
theorem zPW {α:Type} {p:α->Bool} {xs:List α} {i:Nat} (h:i<xs.length):(xs.take (i+1)).filter p=(xs.take i).filter p++if p xs[i]=true then [xs[i]]else []:=by
 rw[List.take_add_one,List.getElem?_eq_getElem h,List.filter_append]
 congr 1
 show List.filter p [xs[i]]=_
 by_cases hp:p xs[i]=true
 ·rw[if_pos hp,List.filter_cons_of_pos hp]; rfl
 ·rw[if_neg hp,List.filter_cons_of_neg hp]; rfl
theorem zQ6 {e:List D->Option D} {xs ys:List Rec} (hl:xs.length<=lim) (hc:∀r∈xs,e [.lst (ys.map Rec.d),r.d]=some (.bool (hasR ys r))):rn (
 (z0Y (fun l2=>
   if (decide ((gd l2 1).i<(((xs.map Rec.d).length:Nat):Int)))then
    (if (inb (gd l2 1).i (xs.map Rec.d).length)then
      (e [.lst (ys.map Rec.d),(gd (xs.map Rec.d) (gd l2 1).i.toNat)]).bind fun r4=>
      if (!r4.b)then
       if (appOk 48 (gd l2 0).l ((gd (xs.map Rec.d) (gd l2 1).i.toNat)::([]:List D)))then
       ou 0 [(D.lst ((gd l2 0).l++((gd (xs.map Rec.d) (gd l2 1).i.toNat)::([]:List D))))]
       else none
      else
       ou 0 [(gd l2 0)]
      else none).bind fun o4=>
    sel2 o4.1 (ou 0 [(gd o4.2 0),(.int (IntKind.wrap .i64 ((gd l2 1).i+1)))]) fun _=>none
   else
    ou 1 [(gd l2 0)]) [(D.lst []),(.int 0)]).bind fun o2=>
 sel2 o2.1 (ou 0 [(gd o2.2 0)]) fun _=>none)=some (.lst ((z97 xs ys).map Rec.d)):=by
 have hlim:lim=1048576:=rfl
 rw[List.length_map]
 refine z06 (z0u (fun i (s:List D)=>[.lst s,.int (i:Int)]) xs.length (fun i=>((xs.take i).filter fun r=>!hasR ys r).map Rec.d) (t:=0) (o:=[.lst ((z97 xs ys).map Rec.d)]) rfl ?_ ?_) rfl
 ·intro i hi;have hg:gd (xs.map Rec.d) i=xs[i].d:=z2Q hi;have hle:((xs.take i).filter fun r=>!hasR ys r).length<=i:=Nat.le_trans (List.length_filter_le _ _) (by rw[List.length_take]; omega);simp only[z0k,z1c,D.i_int,D.l_lst,Int.toNat_natCast,hg];refine z03 (by simpa using hi) ?_;rw[zPW hi,z0B hi (Nat.le_trans hl z0R)]
  cases hh:hasR ys xs[i]with
  | false=>
    have:=hc _ (List.getElem_mem hi);rw[hh]at this;refine z9d (l:=[.lst ((((xs.take i).filter fun r=>!hasR ys r)++[xs[i]]).map Rec.d)]) (z03 (z0A hi) (z01 this (z03 rfl (z03 (z2x (by rw[List.length_map]; omega) (by simp; omega) (by decide)) ?_)))) rfl;rw[List.map_append]; rfl
  | true=>
    have:=hc _ (List.getElem_mem hi);rw[hh]at this;refine z9d (l:=[.lst (((xs.take i).filter fun r=>!hasR ys r).map Rec.d)]) (z03 (z0A hi) (z01 this (z00 (by simp) rfl))) ?_;simp
 ·simp only[z0k,z1c,D.i_int];refine z00 (by simp) ?_;rw[List.take_length]; rfl
theorem zGI {xs ys:List Rec} (hl:xs.length<=lim) (hy:ys.length<=lim):z2S.F [.lst (xs.map Rec.d),.lst (ys.map Rec.d)]=some (.lst ((z97 xs ys).map Rec.d)):=by
 rw[zJU]
 exact zQ6 (e:=z0N.F) hl (fun r _=>zGC (Nat.le_trans hy z0R))
theorem zTn {xs ys:List Rec} (hl:xs.length<=lim) (hy:ys.length<=lim):z6O.F [.lst (xs.map Rec.d),.lst (ys.map Rec.d)]=some (.lst ((z97 xs ys).map Rec.d)):=by
 rw[zLt]
 exact zQ6 (e:=z1b.F) hl (fun r _=>zKZ (Nat.le_trans hy z0R))
theorem zP4 {xs ys:List Rec} (h:Rises xs):Rises (z97 xs ys):=
 Rises.of (fun r hr=>h.ok r ((List.mem_filter.1 hr).1)) (h.pw.sublist List.filter_sublist)
theorem zSV (xs ys:List Rec):(z97 xs ys).length<=xs.length:=List.length_filter_le _ _
def zRQ (xs:List Rec) (r:Rec) (ys:List Rec):Prop:=z6e.F [.lst (xs.map Rec.d),r.d]=some (.lst (ys.map Rec.d))/\z5I.F [.lst (xs.map Rec.d),r.d]=some (.lst (ys.map Rec.d))/\Rises ys/\ys.length<=xs.length+1/\∀y∈ys,y=r\/y∈xs
open Classical in
noncomputable def putR (xs:List Rec) (r:Rec):List Rec:=if h:∃ys,zRQ xs r ys then Classical.choose h else xs
theorem zSo {xs:List Rec} {r:Rec} (hR:Rises xs) (hl:xs.length<=1000000) (hx:∀x∈xs,x.In lim) (hr:r.In lim) (ok:r.ok=true):zRQ xs r (putR xs r):=by
 have h:∃ys,zRQ xs r ys:=zW0 hR hl hx hr ok
 unfold putR
 rw[dif_pos h]
 exact Classical.choose_spec h
noncomputable def andR (xs ys:List Rec):Nat->List Rec
 | 0=>xs
 | i+1=>putR (andR xs ys i) (ys.getD i Rec.nul)
theorem zOD {xs ys:List Rec} (hR:Rises xs) (hl:xs.length<=1000) (hx:∀x∈xs,x.In lim) (hy:∀y∈ys,y.In lim/\y.ok=true) (hyl:ys.length<=1000):∀i,i<=ys.length->Rises (andR xs ys i)/\(andR xs ys i).length<=xs.length+i/\∀r∈andR xs ys i,r.In lim
 | 0,_=>⟨hR,Nat.le_refl _,hx⟩
 | i+1,hi=>by
   obtain⟨h1,h2,h3⟩:=zOD hR hl hx hy hyl i (by omega);have hg:ys.getD i Rec.nul=ys[i]:=z0H (show i<ys.length by omega) _;have hyi:=hy _ (List.getElem_mem (show i<ys.length by omega));unfold andR;rw[hg];obtain⟨_,_,p1,p2,p3⟩:=zSo h1 (by omega) h3 hyi.1 hyi.2;refine⟨p1,by omega,fun r hr=>?_⟩;rcases p3 r hr with rfl | h
   ·exact hyi.1
   ·exact h3 r h
theorem zRT {e:List D->Option D} {xs ys:List Rec} (hyl:ys.length<=1000) (hc:∀i (hi:i<ys.length),e [.lst ((andR xs ys i).map Rec.d),ys[i].d]=some (.lst ((andR xs ys (i+1)).map Rec.d))):z0Y (fun l2=>
 if (decide ((gd l2 1).i<(((ys.map Rec.d).length:Nat):Int)))then
  if (inb (gd l2 1).i (ys.map Rec.d).length)then
  (e [(gd l2 0),(gd (ys.map Rec.d) (gd l2 1).i.toNat)]).bind fun r4=>
  ou 0 [r4,(.int (IntKind.wrap .i64 ((gd l2 1).i+1)))]
  else none
 else
  ou 1 [(gd l2 0)]) [.lst (xs.map Rec.d),(.int 0)]=some (0,[.lst ((andR xs ys ys.length).map Rec.d)]):=by
 rw[List.length_map]
 refine z0u (fun i (s:List Rec)=>[.lst (s.map Rec.d),.int (i:Int)]) ys.length (andR xs ys) rfl ?_ ?_
 ·intro i hi;have hg:gd (ys.map Rec.d) i=ys[i].d:=z2Q hi;simp only[z0k,z1c,D.i_int,Int.toNat_natCast,hg];refine z03 (by simpa using hi) (z03 (z0A hi) (z01 (hc i hi) ?_));rw[z0B hi (by rw[z1I]; omega)]
 ·simp only[z0k,z1c,D.i_int];exact z00 (by simp) rfl
theorem zVx {xs ys:List Rec} (hR:Rises xs) (hl:xs.length<=1000) (hx:∀x∈xs,x.In lim) (hy:∀y∈ys,y.In lim/\y.ok=true) (hyl:ys.length<=1000) :
 z7U.F [.lst (xs.map Rec.d),.lst (ys.map Rec.d)]=some (.lst ((andR xs ys ys.length).map Rec.d))/\z6s.F [.lst (xs.map Rec.d),.lst (ys.map Rec.d)]=some (.lst ((andR xs ys ys.length).map Rec.d)):=by
 have hlim:lim=1048576:=rfl
 have hput:∀i (hi:i<ys.length),zRQ (andR xs ys i) ys[i] (andR xs ys (i+1)):=by
  intro i hi;obtain⟨h1,h2,h3⟩:=zOD hR hl hx hy hyl i (by omega);have hyi:=hy _ (List.getElem_mem hi);show zRQ _ _ (putR (andR xs ys i) (ys.getD i Rec.nul));rw[z0H hi];exact zSo h1 (by omega) h3 hyi.1 hyi.2
 constructor
 ·rw[zPE];exact z04 (z8b (by simp; omega)) (z06 (zRT (e:=z6e.F) hyl (fun i hi=>(hput i hi).1)) rfl)
 ·rw[zNf];exact z0F (z2x (by simp) (by simp; omega) (by decide)) (z06 (zRT (e:=z5I.F) hyl (fun i hi=>(hput i hi).2.1)) rfl)
end Go.Proofs.YtcnjllnhfoiojaaGreatDoor
namespace Go.Proofs.YtcnjllnhfoiojaaGreatDoor
open Go Go.Own
def apD (z:Zn) (b:Bool):D:=.pair z.d (.pair (.bool b) .unit)
def nulZ:Zn:=⟨[],0,[]⟩
theorem z7C:nulZ.In lim:=⟨by simp[nulZ],by simp[nulZ],by simp[nulZ]⟩
theorem zK0 {xs ys:List Rec}:(z97 xs ys).length > 0↔xs.all (hasR ys)=false:=by
 unfold z97
 rw[gt_iff_lt,List.length_pos_iff_exists_mem,<- Bool.not_eq_true,List.all_eq_true]
 constructor
 ·rintro⟨r,hr⟩ h;rw[List.mem_filter]at hr;have:=h r hr.1;rw[this]at hr; simp at hr
 ·intro h;simp only[Classical.not_forall]at h;obtain⟨r,hr,hn⟩:=h;exact⟨r,List.mem_filter.2 ⟨hr,by simpa using hn⟩⟩
theorem zNG {xs ys:List Rec}:(z97 xs ys).length<xs.length↔xs.any (hasR ys)=true:=by
 unfold z97
 rw[List.length_filter_lt_length_iff_exists,List.any_eq_true]
 simp
theorem Dif.good_iff {x:Dif}:x.good=true↔cntB x.fr=true/\cntB x.to'=true/\x.fr≠x.to'/\(z3u x.dels=true/\x.dels.length<=40)/\(z3u x.adds=true/\x.adds.length<=40)/\x.dels.any (hasR x.adds)=false:=by
 unfold Dif.good
 simp only[Bool.and_eq_true,Bool.not_eq_true',decide_eq_true_eq,decide_eq_false_iff_not]
theorem zPz {e:List D->Option D} {xs ys:List Rec} {neg:Bool} (hl:xs.length<=lim) (hc:∀r∈xs,e [.lst (ys.map Rec.d),r.d]=some (.bool (hasR ys r))):z0Y (fun l3=>
 if (decide ((gd l3 0).i<(((xs.map Rec.d).length:Nat):Int)))then
  if (inb (gd l3 0).i (xs.map Rec.d).length)then
  (e [.lst (ys.map Rec.d),(gd (xs.map Rec.d) (gd l3 0).i.toNat)]).bind fun r4=>
  if (r4.b ^^ neg)then
   ou 1 [(.pair (.str []) (.pair (.int 0) (.pair (D.lst []) .unit))),(.bool false)]
  else
   ou 0 [(.int (IntKind.wrap .i64 ((gd l3 0).i+1)))]
  else none
 else
  ou 2 []) [(.int 0)]=some (cond (xs.all fun r=>!(hasR ys r ^^ neg)) (1,[]) (0,[nulZ.d,.bool false])):=by
 rw[List.length_map,<- z50 xs (fun r=>!(hasR ys r ^^ neg)) Rec.nul]
 refine z1l (fun i=>[.int i]) xs.length _ (t1:=0) (t2:=1) rfl ?_ ?_
 ·intro i hi;have hg:gd (xs.map Rec.d) i=xs[i].d:=z2Q hi;simp only[z0k,D.i_int,Int.toNat_natCast,hg];rw[z0H hi];refine z03 (by simpa using hi) (z03 (z0A hi) (z01 (hc _ (List.getElem_mem hi)) ?_));rw[D.b_bool,z0B hi (Nat.le_trans hl z0R)]
  cases (hasR ys xs[i] ^^ neg) <;> rfl
 ·exact z00 (by simp) rfl
theorem zOR {z:Zn} {x:Dif} (hz:z.In lim) (hx:x.In lim):∃(z':Zn) (b:Bool),z'.In lim/\z1q.F [z.d,x.d]=some (apD z' b)/\z1v.F [z.d,x.d]=some (apD z' b):=by
 have hlim:lim=1048576:=rfl
 have z0:z.d.fld 0=.str z.apex:=rfl
 have z1:(z.d.fld 1).i=z.counter:=rfl
 have z2:z.d.fld 2=.lst (z.recs.map Rec.d):=rfl
 have x0:(x.d.fld 0).i=x.fr:=rfl
 have x1:x.d.fld 1=.int x.to':=rfl
 have x2:x.d.fld 2=.lst (x.dels.map Rec.d):=rfl
 have x3:x.d.fld 3=.lst (x.adds.map Rec.d):=rfl
 have hGI:=z8D hz
 have hGS:=z5n hz
 have hDI:=zCf hx
 have hDS:=z7z hx
 have hll:∀l:List D,(D.lst l).l=l:=fun _=>rfl
 have P1:∀l:List Rec,((D.lst (l.map Rec.d)).l.length:Int)=(l.length:Int):=fun l=>by simp
 rw[zFA,zFc]
 simp only[z0,z1,z2,x0,x1,x2,x3]
 cases k1:z.good with
 | false=>
   rw[k1]at hGI hGS;exact⟨nulZ,false,z7C,z06 (l:=[.bool true]) (z01 hGI (z03 rfl rfl)) (z0F rfl rfl),z06 (l:=[.bool true]) (z01 hGS (z03 rfl rfl)) (z0F rfl rfl)⟩
 | true=>
 rw[k1]at hGI hGS
 cases k2:x.good with
 | false=>
   rw[k2]at hDI hDS;exact⟨nulZ,false,z7C,z06 (l:=[.bool true]) (z01 hGI (z00 (by simp) (z01 hDI (z03 rfl rfl)))) (z0F rfl rfl),z06 (l:=[.bool true]) (z01 hGS (z00 (by simp) (z01 hDS (z03 rfl rfl)))) (z0F rfl rfl)⟩
 | true=>
 rw[k2]at hDI hDS
 by_cases k3':z.counter≠x.fr
 ·have e3:(z.counter != x.fr)=true:=by simpa using k3'
  exact⟨nulZ,false,z7C,z06 (l:=[.bool true]) (z01 hGI (z00 (by simp) (z01 hDI (z00 (by simp) (z03 e3 rfl))))) (z0F rfl rfl),z06 (l:=[.bool true]) (z01 hGS (z00 (by simp) (z01 hDS (z00 (by simp) (by rw[e3]))))) (z0F rfl rfl)⟩
 have k3:z.counter=x.fr:=Classical.not_not.1 k3'
 have e3:(z.counter != x.fr)=false:=by simpa using k3
 have hG:=Zn.good_iff.1 k1
 obtain⟨_,_,_,⟨d1,d2⟩,⟨a1,a2⟩,_⟩:=Dif.good_iff.1 k2
 have hw1:=zGI (xs:=x.dels) (ys:=z.recs) hx.dels.len hz.len
 have hw2:=zGI (xs:=x.adds) (ys:=z.recs) hx.adds.len hz.len
 have hw3:=zGI (xs:=z.recs) (ys:=x.dels) hz.len hx.dels.len
 have hl3:=zTn (xs:=z.recs) (ys:=x.dels) hz.len hx.dels.len
 have l1:=zPz (e:=z1b.F) (xs:=x.dels) (ys:=z.recs) (neg:=true) hx.dels.len (fun r _=>zKZ (Nat.le_trans hz.len z0R))
 have l2:=zPz (e:=z1b.F) (xs:=x.adds) (ys:=z.recs) (neg:=false) hx.adds.len (fun r _=>zKZ (Nat.le_trans hz.len z0R))
 simp only[Bool.xor_true,Bool.not_not]at l1
 simp only[Bool.xor_false]at l2
 cases kA:x.dels.all (hasR z.recs)with
 | false=>
   have hgt:=zK0.2 kA;refine⟨nulZ,false,z7C,z06 (l:=[.bool true]) (z01 hGI (z00 (by simp) (z01 hDI (z00 (by simp) (z00 (by rw[e3]; simp) (z01 hw1 (z03 (decide_eq_true (by rw[P1]; omega)) rfl))))))) (z0F rfl rfl),z06 (l:=[.bool false]) (z01 hGS (z00 (by simp) (z01 hDS (z00 (by simp) (by rw[e3]))))) (z05 (by simp) ?_)⟩;have e:(x.dels.all fun r=>hasR z.recs r)=false:=kA;rw[e]at l1;exact z06 l1 rfl
 | true=>
 have e:(x.dels.all fun r=>hasR z.recs r)=true:=kA
 rw[e]at l1
 have hle:¬(z97 x.dels z.recs).length > 0:=fun h=>by have:=zK0.1 h; rw[kA]at this; cases this
 cases kB:x.adds.any (hasR z.recs)with
 | true=>
   have hlt:=zNG.2 kB;have e2:(x.adds.all fun r=>!(hasR z.recs r))=false:=by
    rw[<- Bool.not_eq_true,List.all_eq_true];intro h;obtain⟨r,hr,hh⟩:=List.any_eq_true.1 kB;have:=h r hr;rw[hh]at this; cases this
   rw[e2]at l2;exact⟨nulZ,false,z7C,z06 (l:=[.bool true]) (z01 hGI (z00 (by simp) (z01 hDI (z00 (by simp) (z00 (by rw[e3]; simp) (z01 hw1 (z00 (fun h=>hle (by have:=of_decide_eq_true h; rw[P1]at this; omega)) (z01 hw2 (by rw[P1,P1,decide_eq_true (by omega)]))))))))) (z0F rfl rfl),z06 (l:=[.bool false]) (z01 hGS (z00 (by simp) (z01 hDS (z00 (by simp) (by rw[e3]))))) (z05 (by simp) (z5w l1 (zB9 (z06 l2 rfl))))⟩
 | false=>
   have hlt:¬(z97 x.adds z.recs).length<x.adds.length:=fun h=>by have:=zNG.1 h; rw[kB]at this; cases this
   have e2:(x.adds.all fun r=>!(hasR z.recs r))=true:=by
    rw[List.all_eq_true];intro r hr;rw[List.any_eq_false]at kB;have:=kB r hr;simpa using this
   rw[e2]at l2;have hr3:Rises (z97 z.recs x.dels):=zP4 (zFz hG.ris);have hlen:=zSV z.recs x.dels;have h40:=hG.n40;have hin:∀r∈z97 z.recs x.dels,r.In lim:=fun r hr=>hz.all r (List.mem_filter.1 hr).1;have hok:∀r∈x.adds,r.In lim/\r.ok=true:=fun r hr=>⟨hx.adds.all r hr,(zFz a1).ok r hr⟩;obtain⟨hb,ha⟩:=zVx hr3 (by omega) hin hok (by omega);obtain⟨_,n2,n3⟩:=zOD hr3 (by omega) hin hok (by omega) x.adds.length (Nat.le_refl _);have hz':(⟨z.apex,x.to',andR (z97 z.recs x.dels) x.adds x.adds.length⟩:Zn).In lim:=⟨hz.apex,by show(andR (z97 z.recs x.dels) x.adds x.adds.length).length<=lim; omega,n3⟩;have g1:=z8D hz';have g2:=z5n hz';have pre:∀{X:Nat×List D->Outc} {Y:Nat×List D->Nat->Outc} {R:Option D},rn (X (0,[.bool false]))=R->rn (((z0z.F [z.d]).bind fun r2=>
    if (!r2.b)then ou 0 [(.bool true)]else
    (z1J.F [x.d]).bind fun r3=>
    if (!r3.b)then ou 0 [(.bool true)]else
    if (z.counter != x.fr)then ou 0 [(.bool true)]else
    (z2S.F [.lst (x.dels.map Rec.d),.lst (z.recs.map Rec.d)]).bind fun r4=>
    if (decide ((r4.l.length:Int) > 0))then ou 0 [(.bool true)]else
    (z2S.F [.lst (x.adds.map Rec.d),.lst (z.recs.map Rec.d)]).bind fun r5=>
    ou 0 [(.bool (decide ((r5.l.length:Int)<((D.lst (x.adds.map Rec.d)).l.length:Int))))]).bind fun o=>sel2 o.1 (X o) (Y o))=R:=fun h=>
    z06 (l:=[.bool false]) (z01 hGI (z00 (by simp) (z01 hDI (z00 (by simp) (z00 (by rw[e3]; simp) (z01 hw1 (z00 (fun h=>hle (by have:=of_decide_eq_true h; rw[P1]at this; omega)) (z01 hw2 (by rw[P1,P1,decide_eq_false (by omega)]))))))))) h
   cases k9:(⟨z.apex,x.to',andR (z97 z.recs x.dels) x.adds x.adds.length⟩:Zn).good with
   | false=>
     rw[k9]at g1 g2;refine⟨nulZ,false,z7C,pre (z05 (by simp) (z04 hw3 (z04 hb (z04 g1 (z0F rfl rfl))))),z06 (l:=[.bool false]) (z01 hGS (z00 (by simp) (z01 hDS (z00 (by simp) (by rw[e3]))))) (z05 (by simp) (z5w l1 (zB9 (z5w l2 (zB9 (z04 hl3 (z04 ha (z04 g2 (z0F rfl rfl)))))))))⟩
   | true=>
     rw[k9]at g1 g2;refine⟨⟨z.apex,x.to',andR (z97 z.recs x.dels) x.adds x.adds.length⟩,true,hz',pre (z05 (by simp) (z04 hw3 (z04 hb (z04 g1 (z05 (by simp) rfl))))),z06 (l:=[.bool false]) (z01 hGS (z00 (by simp) (z01 hDS (z00 (by simp) (by rw[e3]))))) (z05 (by simp) (z5w l1 (zB9 (z5w l2 (zB9 (z04 hl3 (z04 ha (z04 g2 (z05 (by simp) rfl)))))))))⟩
end Go.Proofs.YtcnjllnhfoiojaaGreatDoor
