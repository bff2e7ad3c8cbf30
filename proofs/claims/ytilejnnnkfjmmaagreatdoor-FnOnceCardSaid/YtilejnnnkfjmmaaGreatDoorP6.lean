/- What the functions compute, in plain words. -/
import Derived.Test.YtilejnnnkfjmmaaGreatDoorP5
set_option linter.unusedSectionVars false
set_option linter.unusedVariables false
set_option linter.unusedSimpArgs false
namespace Go.Proofs.YtilejnnnkfjmmaaGreatDoor
open Go Go.Own
theorem z4x (c:Int) (r:Rec):(cntF c r).name=r.name:=by unfold cntF; split <;> rfl
theorem z5P (c:Int) (r:Rec):(cntF c r).type=r.type:=by unfold cntF; split <;> rfl
theorem zSK (c:Int) (r:Rec):(cntF c r).ttl=r.ttl:=by unfold cntF; split <;> rfl
theorem zIm (c:Int) (r:Rec):(cntF c r).key=r.key:=by unfold Rec.key; rw[z4x,z5P]
theorem zI6 {c:Int} {r:Rec} (h:r.type≠6):cntF c r=r:=by unfold cntF; rw[if_neg h]
theorem zF4 (c:Int) (xs:List Rec) (i:Nat):(xs.map (cntF c)).getD i Rec.nul=cntF c (xs.getD i Rec.nul):=by
 rw[List.getD_eq_getElem?_getD,List.getD_eq_getElem?_getD,List.getElem?_map]
 cases xs[i]? with
 | none=>exact(zI6 (c:=c) (r:=Rec.nul) (show Rec.nul.type≠6 by decide)).symm
 | some r=>rfl
theorem zO0 (c:Int) (apex:List UInt8):∀xs:List Rec,soaS apex (xs.map (cntF c))=soaS apex xs
 | []=>rfl
 | r::xs=>by
   rw[List.map_cons,soaS,soaS,zO0 c apex xs];unfold soaW;rw[z4x,z5P]
theorem zL2 (c:Int) (xs:List Rec) (n:List UInt8) (k:Int):z6P (xs.map (cntF c)) n k=z6P xs n k:=by
 unfold z6P
 rw[List.any_map]
 congr 1
 funext r
 simp only[Function.comp,z4x,z5P]
theorem zQc {apex:List UInt8} {xs:List Rec} (hs:RuleS apex xs) {i j:Nat} (hi:i<xs.length) (hj:j<xs.length) (hij:i<j):¬(xs[i].type=6/\xs[j].type=6):=by
 rintro⟨h1,h2⟩
 obtain⟨e1,e2⟩:=zRf.2 hs.s2
 rw[List.any_eq_false]at e1
 have at6:∀r∈xs,r.type=6->isAt apex 6 r=true:=by
  intro r hr ht;have:=e1 r hr;unfold zDw at this;unfold isAt;simp[ht]at this;simp[ht,this]
 rw[<- List.take_append_drop (i+1) xs,List.filter_append,List.length_append]at e2
 have l1:0<((xs.take (i+1)).filter (isAt apex 6)).length:=List.length_pos_of_mem (a:=xs[i]) (List.mem_filter.2 ⟨by
  rw[List.mem_take_iff_getElem]; exact⟨i,by omega,rfl⟩,at6 _ (List.getElem_mem hi) h1⟩)
 have l2:0<((xs.drop (i+1)).filter (isAt apex 6)).length:=List.length_pos_of_mem (a:=xs[j]) (List.mem_filter.2 ⟨by
  rw[List.mem_drop_iff_getElem]; exact⟨j-(i+1),by omega,by congr 1; omega⟩,at6 _ (List.getElem_mem hj) h2⟩)
 omega
theorem zOl {m:Int} (h0:0<=m) (h1:m<=4294967295):z35 (Lib.itoa m) 4294967295=true:=by
 obtain⟨n,rfl⟩:=Int.eq_ofNat_of_zero_le h0
 rw[z62]
 unfold z35
 rw[zBT,z5e]
 simp
 omega
theorem zT2 {c:Int} {r:Rec} (h:r.ok=true):(cntF c r).ok=true:=by
 by_cases h6:r.type=6
 ·have h':=h;unfold Rec.ok at h' |-;rw[z4x,z5P,zSK];simp only[Bool.and_eq_true]at h' |-;refine⟨?_,h'.2⟩;have:(cntF c r).data=Lib.itoa (c % 4294967296):=by unfold cntF; rw[if_pos h6]
  rw[this,h6];exact zOl (by omega) (by omega)
 ·rw[zI6 h6]; exact h
theorem zR1 {c:Int} {a b:Rec} (h:¬(a.type=6/\b.type=6)) (hl:cmpR a b<0):cmpR (cntF c a) (cntF c b)<0:=by
 by_cases ha:a.type=6
 ·have hb:b.type≠6:=fun hb=>h ⟨ha,hb⟩;have hk:cmpK a b≠0:=by
   rw[z7D];intro h0;have:=congrArg Prod.snd (z7d.eq _ _ h0);exact hb ((show b.type=a.type from this.symm).trans ha)
  have hk2:cmpK (cntF c a) (cntF c b)=cmpK a b:=by rw[z7D,z7D,zIm,zIm]
  unfold cmpR at hl |-;rw[orL3,if_neg hk]at hl;rw[orL3,hk2,if_neg hk]; exact hl
 ·by_cases hb:b.type=6
  ·have hk:cmpK a b≠0:=by
    rw[z7D];intro h0;have:=congrArg Prod.snd (z7d.eq _ _ h0);exact ha (by rw[show a.type=b.type from this]; exact hb)
   have hk2:cmpK (cntF c a) (cntF c b)=cmpK a b:=by rw[z7D,z7D,zIm,zIm]
   unfold cmpR at hl |-;rw[orL3,if_neg hk]at hl;rw[orL3,hk2,if_neg hk]; exact hl
  ·rw[zI6 ha,zI6 hb]; exact hl
theorem zQN {c:Int} {apex:List UInt8} {xs:List Rec} (h:Rises xs) (hs:RuleS apex xs):Rises (xs.map (cntF c)):=by
 refine Rises.of (fun r hr=>?_) ?_
 ·obtain⟨y,hy,rfl⟩:=List.mem_map.1 hr;exact zT2 (h.ok y hy)
 ·rw[List.pairwise_iff_getElem];intro i j hi hj hij;rw[List.length_map]at hi hj;rw[List.getElem_map,List.getElem_map];exact zR1 (zQc hs hi hj hij) ((List.pairwise_iff_getElem.1 h.pw) i j hi hj hij)
theorem zRg {c:Int} {apex:List UInt8} {xs:List Rec} (hs:RuleS apex xs):RuleS apex (xs.map (cntF c)):=by
 refine⟨fun r hr=>?_,by rw[zO0]; exact hs.s2,fun i hi=>?_,fun i hi j hij=>?_,by rw[zL2]; exact hs.s5,fun r hr=>?_⟩
 ·obtain⟨y,hy,rfl⟩:=List.mem_map.1 hr;rw[z4x]; exact hs.s1 y hy
 ·rw[List.length_map]at hi;have h3:=hs.s3 i hi;by_cases h0:0<i
  ·have hi1:i-1<xs.length:=by omega
   unfold z7b at h3 |-;rw[zF4,zF4,z0E hi,z0E hi1];rw[z0E hi,z0E hi1]at h3;by_cases ha:xs[i-1].type=6
   ·have hb:xs[i].type≠6:=fun hb=>zQc hs hi1 hi (by omega) ⟨ha,hb⟩;rw[z5P,z5P,z4x,z4x];have:(xs[i-1].type==xs[i].type)=false:=by
     rw[beq_eq_false_iff_ne,ha]; exact fun e=>hb e.symm
    rw[this]; simp
   ·by_cases hb:xs[i].type=6
    ·rw[z5P,z5P,z4x,z4x];have:(xs[i-1].type==xs[i].type)=false:=by
      rw[beq_eq_false_iff_ne,hb]; exact ha
     rw[this]; simp
    ·rw[zI6 ha,zI6 hb]; exact h3
  ·unfold z7b;rw[decide_eq_false h0]; rfl
 ·rw[List.length_map]at hi;have:=hs.s4 i hi j hij;rw[zF4,zF4];unfold zA7 at this |-;rw[z4x,z4x,z5P,z5P]; exact this
 ·obtain⟨y,hy,rfl⟩:=List.mem_map.1 hr;have:=hs.s6 y hy;unfold z7G at this |-;have hc:zHG apex (xs.map (cntF c)) (cntF c y).name=zHG apex xs y.name:=by
   unfold zHG;rw[z4x];congr 1;funext n;exact zL2 c xs n 2
  rw[hc,z5P,z4x]; exact this
theorem zRG {z z':Zn} (hg:z.Good) (h1:z'.apex=z.apex) (h2:z'.counter=z.counter+1) (h3:z.counter≠1152921504606846976) {ys:List Rec} (h4:z'.recs=ys.map (cntF (z.counter+1))) (hR:Rises ys) (hs:RuleS z.apex ys) (h40:ys.length<=40):z'.Good:=by
 have hc:=hg.cnt
 simp only[inP,Bool.and_eq_true,decide_eq_true_eq]at hc
 refine⟨?_,by rw[h1]; exact hg.apx,by rw[h4,List.length_map]; exact h40,by rw[h4]; exact(zQN hR hs).rs,by rw[h1,h4]; exact zRg hs,fun r hr h6=>?_⟩
 ·rw[h2];simp only[inP,Bool.and_eq_true,decide_eq_true_eq]; omega
 ·rw[h4]at hr;obtain⟨y,hy,rfl⟩:=List.mem_map.1 hr;rw[z5P]at h6;unfold cntF;rw[if_pos h6,h2]
end Go.Proofs.YtilejnnnkfjmmaaGreatDoor
namespace Go.Proofs.YtilejnnnkfjmmaaGreatDoor
open Go Go.Own
structure Ask where
 client:Int
 no:Int
 ch:List (Int×Rec)
def Ask.d (a:Ask):D:=.pair (.int a.client) (.pair (.int a.no) (.pair (.lst (a.ch.map chgD)) .unit))
structure Ask.In (B:Nat) (a:Ask):Prop where
 len:a.ch.length<=B
 all:∀p∈a.ch,p.2.In B
def takD (c:Ctl) (d:Dn) (b:Bool):D:=.pair c.d (.pair d.d (.pair (.bool b) .unit))
theorem zPe {z:Zn} (h:z.recs.length<=lim):z5H.F [z.d]=some z.d:=by
 have f2:z.d.fld 2=.lst (z.recs.map Rec.d):=rfl
 rw[zHv,f2]
 exact z03 (zAl (by simpa using h)) rfl
theorem zKd {xs:List D} (h:xs.length<=lim):z0v.F [.lst xs]=some (.lst xs):=by
 rw[z5m]
 have ha:appOk 32 ([]:List D) (D.lst xs).l=true:=z1F (by simp) h (by decide)
 rw[zSD]
 ·refine z0G ha rfl
 ·intro h;rw[if_pos ha];have:xs=[]:=by simpa using h
  subst this;rfl
theorem zKj {c:Ctl} (hc:c.In lim):z47.F [c.d]=some c.d:=by
 have f0:c.d.fld 0=c.zone.d:=rfl
 have f1:c.d.fld 1=.lst (c.last.map Dn.d):=rfl
 rw[zDK,f0,f1]
 exact z03 (zPe hc.zone.len) (z03 (zKd (by simpa using hc.len)) rfl)
theorem zIv {c:Ctl} (hc:c.In lim):z3j.F [c.d]=some c.d:=by
 have f0:c.d.fld 0=c.zone.d:=rfl
 have f1:(c.d.fld 1).l=c.last.map Dn.d:=rfl
 rw[zJn,f0,f1]
 exact z03 (zPc hc.zone.len) (z0G (z1F (by simp) (by simpa using hc.len) (by decide)) rfl)
structure CGood (c:Ctl):Prop where
 zone:c.zone.Good
 many:0<=c.many/\c.many<=1000000
 len:c.last.length<=8
 up:∀i j (hi:i<c.last.length) (hj:j<c.last.length),i<j->c.last[i].client<c.last[j].client
theorem z9p {c:Ctl} (h:c.good=true):CGood c:=by
 unfold Ctl.good at h
 simp only[Bool.and_eq_true,inP,decide_eq_true_eq,z1S]at h
 obtain⟨h1,h2,h3,h4⟩:=h
 have step:∀i (hi:i+1<c.last.length),c.last[i].client<c.last[i+1].client:=by
  intro i hi;have:=h4 (i+1) hi;unfold dnOk at this;simp only[Bool.and_eq_true,z0E hi,Nat.add_sub_cancel,z0E (show i<c.last.length by omega),Bool.or_eq_true,beq_iff_eq,decide_eq_true_eq]at this;rcases this.2.2.2 with h5 | h5
  ·omega
  ·exact h5
 refine⟨Zn.good_iff.1 h1,h2,h3,fun i j hi hj hij=>?_⟩
 have key:∀m (hm:i+(m+1)<c.last.length),c.last[i].client<c.last[i+(m+1)].client:=by
  intro m
  induction m with
  | zero=>intro hm; exact step i hm
  | succ m ih=>
    intro hm;have h5:=ih (by omega);have h6:=step (i+(m+1)) (by omega);exact Int.lt_trans h5 h6
 obtain⟨m,rfl⟩:∃m,j=i+(m+1):=⟨j-i-1,by omega⟩
 exact key m hj
theorem CGood.pw {c:Ctl} (h:CGood c):c.last.Pairwise (fun x y=>x.client<y.client):=List.pairwise_iff_getElem.2 fun i j hi hj hij=>h.up i j hi hj hij
theorem CGood.of_pw {l:List Dn} (h:l.Pairwise (fun x y=>x.client<y.client)):∀i j (hi:i<l.length) (hj:j<l.length),i<j->l[i].client<l[j].client:=fun i j hi hj hij=>List.pairwise_iff_getElem.1 h i j hi hj hij
def z8O (l:List Dn) (k:Nat) (b:Bool) (d:Dn):List Dn:=l.take k++d::l.drop (if b then k+1 else k)
theorem zQG {l:List Dn} {k:Nat} {d:Dn} (h:k<l.length):(l.map Dn.d).set k d.d=(z8O l k true d).map Dn.d:=by
 unfold z8O
 rw[if_pos rfl,List.set_eq_take_append_cons_drop,if_pos (by simpa using h),List.map_append,List.map_cons,List.map_take,List.map_drop]
theorem zQF {l:List Dn} {k:Nat} {d:Dn} {y:D} (h:k<=l.length):((l.map Dn.d).take k++[y]++(l.map Dn.d).drop k).set k d.d=(z8O l k false d).map Dn.d:=by
 have hl:((l.map Dn.d).take k).length=k:=by simp; omega
 unfold z8O
 rw[List.append_assoc,List.set_append,hl,if_neg (by omega),Nat.sub_self]
 simp[List.map_take,List.map_drop]
theorem zRc {l:List Dn} {k:Nat} {b:Bool} {d:Dn} (hp:l.Pairwise (fun x y=>x.client<y.client)) (k1:k<=l.length) (k2:∀i (hi:i<l.length),i<k->l[i].client<d.client) (k3:∀hk:k<l.length,¬l[k].client<d.client) (kb:b=true↔∃h:k<l.length,l[k].client=d.client):(z8O l k b d).Pairwise (fun x y=>x.client<y.client):=by
 have hpi:=List.pairwise_iff_getElem.1 hp
 unfold z8O
 rw[List.pairwise_append,List.pairwise_cons]
 have hbig:∀y∈l.drop (if b=true then k+1 else k),d.client<y.client:=by
  intro y hy;obtain⟨i,hi,rfl⟩:=List.getElem_of_mem hy;rw[List.length_drop]at hi;rw[List.getElem_drop];split at hi
  ·rename_i hb;obtain⟨hk,hke⟩:=kb.1 hb;have:=hpi k (k+1+i) hk (by omega) (by omega);simp only[hb,if_true];rw[<- hke]; exact this
  ·rename_i hb;have hk:k<l.length:=by omega
   have h1:=k3 hk;have h2:l[k].client≠d.client:=fun h=>hb (kb.2 ⟨hk,h⟩);have h0:b=false:=by simpa using hb
   subst h0;simp only[Bool.false_eq_true,if_false];by_cases h0:i=0
   ·subst h0;show d.client<l[k+0].client;have:l[k+0]=l[k]:=rfl;rw[this]; omega
   ·have:=hpi k (k+i) hk (by omega) (by omega);omega
 refine⟨hp.sublist (List.take_sublist _ _),⟨hbig,hp.sublist (List.drop_sublist _ _)⟩,fun x hx y hy=>?_⟩
 obtain⟨i,hi,rfl⟩:=List.getElem_of_mem hx
 rw[List.length_take]at hi
 have hlt:=k2 i (by omega) (by omega)
 rw[List.getElem_take]
 rcases List.mem_cons.1 hy with rfl | hy
 ·exact hlt
 ·have:=hbig y hy; omega
theorem zS0 {c:Ctl} (hg:CGood c) (n:Int):∃(k:Nat) (b:Bool),k<=c.last.length/\(∀i (hi:i<c.last.length),i<k->c.last[i].client<n)/\(∀hk:k<c.last.length,¬c.last[k].client<n)/\(b=true↔∃h:k<c.last.length,c.last[k].client=n) /\
 z1u.F [c.d,.int n]=some (.pair (.int (k:Int)) (.pair (.bool b) .unit)):=by
 have hlim:lim=1048576:=rfl
 have hl:=hg.len
 have f1:c.d.fld 1=.lst (c.last.map Dn.d):=rfl
 have hlt:∀x y:Int,intC x y<0↔x<y:=by intro x y; unfold intC; split <;> (try split) <;> omega
 obtain⟨k,k1,k2,k3,b,hb,hr⟩:=zRw (f:=Dn.d) (c:=fun d=>z1V.F [d,.int n]) (xs:=c.last) (cv:=fun x=>intC x.client n) (by omega) (fun x _=>by
  show z1V.F [x.d,.int n]=_;rw[z9d];have:x.d.fld 0=.int x.client:=rfl;rw[this];exact z03 (zIs x.client n) rfl) (fun i j hi hj hij h=>by
  rw[hlt]at h |-;by_cases he:i=j
  ·subst he; exact h
  ·have:=hg.up i j hi hj (by omega); omega)
 have hz:∀x:Int,intC x n=0↔x=n:=by intro x; unfold intC; split <;> (try split) <;> omega
 refine⟨k,b,k1,fun i hi hik=>(hlt _ _).1 (k2 i hi hik),fun hk h=>?_,?_,?_⟩
 ·have:=k3 k hk (Nat.le_refl _);have:=(hlt _ _).2 h;omega
 ·rw[hb];exact⟨fun⟨h,e⟩=>⟨h,(hz _).1 e⟩,fun⟨h,e⟩=>⟨h,(hz _).2 e⟩⟩
 ·rw[zBA,f1];refine z03 (r:=.pair (.int (k:Int)) (.pair (.bool b) .unit)) ?_ rfl;rw[z1l]; exact hr
def Was (c:Ctl) (n m:Int):Prop:=∃k,∃h:k<c.last.length,c.last[k].client=n/\c.last[k].no=m
structure TkS (c:Ctl) (a:Ask) (c':Ctl) (d:Dn) (b:Bool):Prop where
 again:who a.client a.no=true->Was c a.client a.no->b=true
 res:b=true->who a.client a.no=true/\((∃k,∃h:k<c.last.length,c.last[k].client=a.client/\c.last[k].no=a.no/\c'=c/\d=c.last[k]) \/
  (¬Was c a.client a.no/\c'.many=c.many+1/\d.client=a.client/\d.no=a.no/\inP d.code 0 4=true/\inP d.serial 0 4294967295=true/\d∈c'.last/\∀x∈c'.last,x=d\/x∈c.last))
theorem zPf {c:Ctl} {a:Ask} (hc:c.In lim) (hg:CGood c) (ha:a.In lim):∃(c':Ctl) (d:Dn) (b:Bool),c'.In lim/\(b=true->CGood c')/\TkS c a c' d b/\z1G.F [c.d,a.d]=some (takD c' d b)/\z2h.F [c.d,a.d]=some (takD c' d b):=by
 have hlim:lim=1048576:=rfl
 have c0:c.d.fld 0=c.zone.d:=rfl
 have c1:c.d.fld 1=.lst (c.last.map Dn.d):=rfl
 have c2:c.d.fld 2=.int c.many:=rfl
 have a0:a.d.fld 0=.int a.client:=rfl
 have a1:a.d.fld 1=.int a.no:=rfl
 have a2:a.d.fld 2=.lst (a.ch.map chgD):=rfl
 have hl8:=hg.len
 have hnC:nulC.In lim:=⟨⟨by simp[nulC],by simp[nulC],by simp[nulC]⟩,by simp[nulC]⟩
 obtain⟨k,b,k1,k2,k3,kb,hfind⟩:=zS0 hg a.client
 have hI:=zIA a.client a.no
 have hS:=zNa a.client a.no
 have hlen:(D.lst (c.last.map Dn.d)).l.length=c.last.length:=by simp
 have hll:(D.lst (c.last.map Dn.d)).l=c.last.map Dn.d:=rfl
 rw[zBB,zHx]
 simp only[c0,c1,c2,a0,a1,a2,hll,List.length_map,D.i_int]
 cases hw:who a.client a.no with
 | false=>
   rw[hw]at hI hS;exact⟨nulC,Dn.nul,false,hnC,by simp,⟨fun h=>(by rw[hw]at h; cases h),fun h=>(by cases h)⟩,z03 hI (z0G rfl rfl),z03 hS (z0G rfl rfl)⟩
 | true=>
   rw[hw]at hI hS;have hloop:z0d (fun l3=>
    (if (decide ((gd l3 0).i<((c.last.length:Nat):Int)))then
        if (inb (gd l3 0).i c.last.length)then
        ou 0 [(.bool (decide (((gd (c.last.map Dn.d) (gd l3 0).i.toNat).fld 0).i<a.client)))]
        else none
      else
       ou 0 [(.bool false)]).bind fun o4=>
    sel2 o4.1 (if (gd o4.2 0).b then
     ou 0 [(.int (IntKind.wrap .i64 ((gd l3 0).i+1)))]
     else
      ou 1 [(gd l3 0)]) fun _=>none) [(.int 0)]=some (0,[.int (k:Int)]):=by
    refine z2Q (fun i (_:Unit)=>[.int (i:Int)]) k (fun _=>()) rfl ?_ ?_
    ·intro i hi;have hi':i<c.last.length:=by omega
     have e0:(gd [D.int (i:Int)] 0).i=(i:Int):=rfl;have hgg:gd (c.last.map Dn.d) i=c.last[i].d:=zHK hi';have f0:(c.last[i].d.fld 0).i=c.last[i].client:=rfl;simp only[e0,Int.toNat_natCast,hgg,f0];refine z0b (l:=[.bool true]) (z01 (decide_eq_true (by omega)) (z01 (z0B hi') ?_)) (z01 rfl ?_)
     ·rw[decide_eq_true (k2 i hi' hi)]
     ·rw[z0P hi' (by rw[z0c]; omega)]
    ·have e0:(gd [D.int (k:Int)] 0).i=(k:Int):=rfl;simp only[e0,Int.toNat_natCast];refine z0b (l:=[.bool false]) ?_ (z00 (by simp) rfl);by_cases hk:k<c.last.length
     ·have hgg:gd (c.last.map Dn.d) k=c.last[k].d:=zHK hk;have f0:(c.last[k].d.fld 0).i=c.last[k].client:=rfl;rw[hgg,f0];refine z01 (decide_eq_true (by omega)) (z01 (z0B hk) ?_);rw[decide_eq_false (k3 hk)]
     ·exact z00 (fun h=>hk (by have:=of_decide_eq_true h; omega)) rfl
   have hhas:(if (decide ((k:Int)<((c.last.length:Nat):Int)))then if (inb (k:Int) c.last.length)then ou 0 [(.bool (((gd (c.last.map Dn.d) (k:Int).toNat).fld 0).i==a.client))]else none else ou 0 [(.bool false)]:Outc)=some (0,[.bool b]):=by
    by_cases hk:k<c.last.length
    ·have hgg:gd (c.last.map Dn.d) k=c.last[k].d:=zHK hk;have f0:(c.last[k].d.fld 0).i=c.last[k].client:=rfl;rw[Int.toNat_natCast,hgg,f0];refine z01 (decide_eq_true (by omega)) (z01 (z0B hk) ?_);have:(c.last[k].client==a.client)=b:=by
      rw[Bool.eq_iff_iff,kb,beq_iff_eq];exact⟨fun h=>⟨hk,h⟩,fun⟨_,h⟩=>h⟩
     rw[this]
    ·have:b=false:=by
      rw[<- Bool.not_eq_true,kb];rintro⟨h,_⟩; exact hk h
     rw[this];exact z00 (fun h=>hk (by have:=of_decide_eq_true h; omega)) rfl
   have g0:(gd [D.int (k:Int)] 0).i=(k:Int):=rfl;have P0:∀x y:D,(D.pair x (.pair y .unit)).fld 0=x:=fun _ _=>rfl;have P1:∀x y:D,(D.pair x (.pair y .unit)).fld 1=y:=fun _ _=>rfl;have hz:c.zone.In lim:=hc.zone;obtain⟨z',n,z1,z2,z3,hAI,hAS,hgd⟩:=zST hz hg.zone ha.len ha.all
   -- the zone behind it
   let zz:Zn:=if n=0 then z' else c.zone
   have hzz:zz.In lim:=by show(if n=0 then z' else c.zone).In lim; split; exact z1; exact hz
   have hzd:zz.d=if n=0 then z'.d else c.zone.d:=by show(if n=0 then z' else c.zone).d=_; split <;> rfl
   let d:Dn:=⟨a.client,a.no,n,zz.counter.tmod 4294967296⟩
   let c':Ctl:=⟨zz,z8O c.last k b d,c.many+1⟩
   have hpl:(z8O c.last k b d).length<=9:=by unfold z8O; simp only[List.length_append,List.length_cons,List.length_take,List.length_drop]; split <;> omega
   have hc':c'.In lim:=⟨hzz,by show(z8O c.last k b d).length<=lim; omega⟩;have hmw:IntKind.wrap .i64 (c.many+1)=c.many+1:=by have:=hg.many; rw[z0f] <;> omega
   have hgz:zz.Good:=by
    show(if n=0 then z' else c.zone).Good;split
    ·rename_i hn;obtain⟨q1,q2,q3,ys,q4,q5,q6,q7⟩:=hgd hn;exact zRG hg.zone q1 q2 q3 q4 q5 q6 q7
    ·exact hg.zone
   have hup:=hg.pw;have hgood:(b=true\/c.last.length≠8)->c.many≠1000000->CGood c':=by
    intro hb hm;refine⟨hgz,⟨by have:=hg.many; show 0<=c.many+1; omega,by have:=hg.many; show c.many+1<=1000000; omega⟩,?_,CGood.of_pw ?_⟩
    ·show(z8O c.last k b d).length<=8;unfold z8O;simp only[List.length_append,List.length_cons,List.length_take,List.length_drop];split
     ·rename_i hbt;obtain⟨h,_⟩:=kb.1 hbt;omega
     ·rename_i hbf;have:=hb.resolve_left hbf;omega
    ·show(z8O c.last k b d).Pairwise (fun x y=>x.client<y.client);exact zRc hup k1 k2 k3 kb
   have hwk:∀k',(h':k'<c.last.length)->c.last[k'].client=a.client->k'=k:=by
    intro k' h' he;rcases Nat.lt_trichotomy k' k with h | h | h
    ·have:=k2 k' h' h; omega
    ·exact h
    ·have h3:=k3 (by omega);have:=hg.up k k' (by omega) h' h;omega
   have hnew:¬Was c a.client a.no->(¬Was c a.client a.no/\c'.many=c.many+1/\d.client=a.client/\d.no=a.no/\inP d.code 0 4=true/\inP d.serial 0 4294967295=true/\d∈c'.last/\∀x∈c'.last,x=d\/x∈c.last):=by
    intro hnw;obtain⟨e1,e2,e3⟩:=zK7 hgz.cnt;refine⟨hnw,rfl,rfl,rfl,z3,?_,?_,?_⟩
    ·show inP (zz.counter.tmod 4294967296) 0 4294967295=true;rw[e1];have:=Int.emod_lt_of_pos zz.counter (show(0:Int)<4294967296 by decide);unfold inP;simp only[Bool.and_eq_true,decide_eq_true_eq];omega
    ·show d∈z8O c.last k b d;unfold z8O; simp
    ·intro x hx;have hx':x∈z8O c.last k b d:=hx;unfold z8O at hx';simp only[List.mem_append,List.mem_cons]at hx';rcases hx' with h | h | h
     ·exact .inr (List.mem_of_mem_take h)
     ·exact .inl h
     ·exact .inr (List.mem_of_mem_drop h)
   have hown:=zKj hc;rw[<- hzd]at hAS
   -- the program's end
   have tailI:∀(L:List D) (zI:D),zI=c.zone.d->k<L.length->L.set k d.d=(z8O c.last k b d).map Dn.d ->
    rn ((z5f.F [zI,.lst (a.ch.map chgD)]).bind fun r6=>
     (if ((r6.fld 1).i==0)then ou 0 [((D.pair zI (.pair (.lst L) (.pair (.int c.many) .unit))).setFld 0 (r6.fld 0))]else ou 0 [(D.pair zI (.pair (.lst L) (.pair (.int c.many) .unit)))]).bind fun o7=>
     sel2 o7.1 (if (4294967296 != 0)then
      if (inb (k:Int) ((gd o7.2 0).fld 1).l.length)then
      ou 0 [(.pair (((gd o7.2 0).setFld 2 (.int (IntKind.wrap .i64 (((gd o7.2 0).fld 2).i+1)))).setFld 1 (D.lst (((gd o7.2 0).fld 1).l.set (k:Int).toNat (.pair (.int a.client) (.pair (.int a.no) (.pair (r6.fld 1) (.pair (.int ((((gd o7.2 0).fld 0).fld 1).i.tmod 4294967296)) .unit))))))) (.pair (.pair (.int a.client) (.pair (.int a.no) (.pair (r6.fld 1) (.pair (.int ((((gd o7.2 0).fld 0).fld 1).i.tmod 4294967296)) .unit)))) (.pair (.bool true) .unit)))]
      else none
     else none) fun _=>none)=some (takD c' d true):=by
    rintro L _ rfl hkL hset;refine z03 hAI (z06 (l:=[D.pair zz.d (.pair (.lst L) (.pair (.int c.many) .unit))]) ?_ (z0G rfl (z0G (z0B hkL) ?_)))
    ·rw[P1,P0,D.i_int];by_cases hn:n=0
     ·rw[if_pos (by simp[hn])];have:zz.d=z'.d:=by rw[hzd,if_pos hn]
      rw[this,if_pos hn]; rfl
     ·rw[if_neg (by simp[hn])];have:zz.d=c.zone.d:=by rw[hzd,if_neg hn]
      rw[this]
    ·show some (D.pair (.pair zz.d (.pair (.lst (L.set k d.d)) (.pair (.int (IntKind.wrap .i64 (c.many+1))) .unit))) (.pair d.d (.pair (.bool true) .unit)))=_;rw[hmw,hset]; rfl
   have hs1:slOk 0 (k:Int) (c.last.length:Int)=true:=by simp[slOk]; omega
   have htk:((c.last.map Dn.d).take k).length=k:=by simp; omega
   -- the reference's end
   have tailS:rn ((z3H.F [c.zone.d,.lst (a.ch.map chgD)]).bind fun r7=>
    if (4294967296 != 0)then
    if (slOk 0 (k:Int) (c.last.length:Int))then
    if (appOk 32 ([]:List D) (((c.last.map Dn.d).drop 0).take (((k:Int).toNat-0:Nat):Int).toNat))then
    if (appOk 32 (([]:List D)++(((c.last.map Dn.d).drop 0).take (((k:Int).toNat-0:Nat):Int).toNat)) ((.pair (.int a.client) (.pair (.int a.no) (.pair (r7.fld 1) (.pair (.int (((r7.fld 0).fld 1).i.tmod 4294967296)) .unit))))::([]:List D)))then
    (if b then ou 0 [(.int (IntKind.wrap .i64 ((k:Int)+1)))]else ou 0 [(.int (k:Int))]).bind fun o8=>
    sel2 o8.1 (if (slOk (gd o8.2 0).i (c.last.length:Int) (c.last.length:Int))then
     if (appOk 32 ((([]:List D)++(((c.last.map Dn.d).drop 0).take (((k:Int).toNat-0:Nat):Int).toNat))++((.pair (.int a.client) (.pair (.int a.no) (.pair (r7.fld 1) (.pair (.int (((r7.fld 0).fld 1).i.tmod 4294967296)) .unit))))::([]:List D))) (((c.last.map Dn.d).drop (gd o8.2 0).i.toNat).take (((c.last.length:Int).toNat-(gd o8.2 0).i.toNat:Nat):Int).toNat))then
     ou 0 [(.pair (.pair (r7.fld 0) (.pair (D.lst (((([]:List D)++(((c.last.map Dn.d).drop 0).take (((k:Int).toNat-0:Nat):Int).toNat))++((.pair (.int a.client) (.pair (.int a.no) (.pair (r7.fld 1) (.pair (.int (((r7.fld 0).fld 1).i.tmod 4294967296)) .unit))))::([]:List D)))++(((c.last.map Dn.d).drop (gd o8.2 0).i.toNat).take (((c.last.length:Int).toNat-(gd o8.2 0).i.toNat:Nat):Int).toNat))) (.pair (.int (IntKind.wrap .i64 (c.many+1))) .unit))) (.pair (.pair (.int a.client) (.pair (.int a.no) (.pair (r7.fld 1) (.pair (.int (((r7.fld 0).fld 1).i.tmod 4294967296)) .unit)))) (.pair (.bool true) .unit)))]
     else none
    else none) fun _=>none
    else none
    else none
    else none
    else none)=some (takD c' d true):=by
    refine z03 hAS ?_;simp only[P0,P1,Int.toNat_natCast,Nat.sub_zero,List.drop_zero,List.nil_append];refine z0G rfl (z0G hs1 (z0G (z1F (by simp) (by rw[htk]; omega) (by decide)) (z0G (z1F (by rw[htk]; omega) (by simp; omega) (by decide)) ?_)));have kk:∃q:Nat,q=(if b=true then k+1 else k)/\q<=c.last.length:=by
     refine⟨_,rfl,?_⟩;split
     ·rename_i hb;obtain⟨h,_⟩:=kb.1 hb; omega
     ·exact k1
    obtain⟨q,hq,hql⟩:=kk;refine z06 (l:=[.int (q:Int)]) ?_ ?_
    ·rw[hq]
     cases hb:b with
     | true=>
       obtain⟨h,_⟩:=kb.1 hb;refine z01 rfl ?_;rw[z0P h (by rw[z0c]; omega)]; rfl
     | false=>exact z00 (by simp) rfl
    ·have hqt:((c.last.map Dn.d).drop q).length=c.last.length-q:=by simp
     simp only[z16,D.i_int,Int.toNat_natCast];refine z0G (by simp[slOk]; omega) (z0G (z1F (by rw[List.length_append,htk]; simp; omega) (by rw[List.length_take,hqt]; omega) (by decide)) ?_);rw[List.take_of_length_le (l:=(c.last.map Dn.d).drop q) (by rw[hqt]; omega)];show some (D.pair (.pair zz.d (.pair (.lst _) (.pair (.int (IntKind.wrap .i64 (c.many+1))) .unit))) (.pair d.d (.pair (.bool true) .unit)))=_;rw[hmw];have:(c.last.map Dn.d).take k++[d.d]++(c.last.map Dn.d).drop q=(z8O c.last k b d).map Dn.d:=by
      unfold z8O;rw[<- hq,List.map_append,List.map_cons,List.map_take,List.map_drop,List.append_assoc]; rfl
     show some (D.pair (.pair zz.d (.pair (.lst ((c.last.map Dn.d).take k++[d.d]++(c.last.map Dn.d).drop q)) (.pair (.int (c.many+1)) .unit))) (.pair d.d (.pair (.bool true) .unit)))=_;rw[this]; rfl
   cases hb:b with
   | true=>
     obtain⟨hk,hkc⟩:=kb.1 hb;have hgk:gd (c.last.map Dn.d) k=c.last[k].d:=zHK hk;have fk1:(c.last[k].d.fld 1).i=c.last[k].no:=rfl;rw[hb]at hfind hhas tailI tailS;by_cases hno:c.last[k].no=a.no
     ·refine⟨c,c.last[k],true,hc,fun _=>hg,⟨fun _ _=>rfl,fun _=>⟨hw,.inl ⟨k,hk,hkc,hno,rfl,rfl⟩⟩⟩,?_,?_⟩
      ·refine z03 hI (z05 (by simp) (z03 hown (z03 hfind ?_)));simp only[P0,P1,D.b_bool,D.i_int,Int.toNat_natCast,hgk,fk1];refine z8o (l:=[c.d,c.last[k].d,.bool true]) (z0b (l:=[.bool true]) (z01 (by first | rfl | trivial) (z01 (z0B hk) (by rw[hno]; simp[ou]))) (z01 (by first | rfl | trivial) (z01 (z0B hk) rfl))) (z8p rfl)
      ·refine z03 hS (z05 (by simp) (z06 hloop ?_));simp only[g0];refine z06 hhas ?_;simp only[z16,D.b_bool,Int.toNat_natCast,hgk,fk1];exact z06 (l:=[.bool true]) (z01 (by first | rfl | trivial) (z01 (z0B hk) (by rw[hno]; simp[ou]))) (z0G rfl (z0G (z0B hk) rfl))
     ·have hno':(c.last[k].no==a.no)=false:=by simpa using hno
      have hnw:¬Was c a.client a.no:=by
       rintro⟨k',h',w1,w2⟩;have:=hwk k' h' w1;subst this;exact hno w2
      by_cases hst:c.last[k].no > a.no\/c.many=1000000
      ·refine⟨nulC,Dn.nul,false,hnC,by simp,⟨fun _ h=>absurd h hnw,fun h=>(by cases h)⟩,?_,?_⟩
       ·refine z03 hI (z05 (by simp) (z03 hown (z03 hfind ?_)));simp only[P0,P1,D.b_bool,D.i_int,Int.toNat_natCast,hgk,fk1,hno'];refine z8o (l:=[nulC.d,Dn.nul.d,.bool false]) (z0b (l:=[.bool false]) (z01 (by first | rfl | trivial) (z01 (z0B hk) rfl)) (z00 (by simp) (z0b (l:=[.bool true]) ?_ (z01 (by first | rfl | trivial) rfl)))) (z8p rfl)
        by_cases h1:c.last[k].no > a.no
        ·exact z0b (l:=[.bool true]) (z01 (by first | rfl | trivial) (z01 (z0B hk) (by simp[h1,ou]))) (z01 (by first | rfl | trivial) rfl)
        ·have h2:c.many=1000000:=hst.resolve_left h1;exact z0b (l:=[.bool false]) (z01 (by first | rfl | trivial) (z01 (z0B hk) (by simp[ou]; omega))) (z00 (by simp) (z0b (l:=[.bool false]) (z00 (by simp) rfl) (z00 (by simp) (by rw[h2]; rfl))))
       ·refine z03 hS (z05 (by simp) (z06 hloop ?_));simp only[g0];refine z06 hhas ?_;simp only[z16,D.b_bool,Int.toNat_natCast,hgk,fk1,hno'];refine z06 (l:=[.bool false]) (z01 (by first | rfl | trivial) (z01 (z0B hk) rfl)) (z05 (by simp) (z06 (l:=[.bool true]) (z01 (by first | rfl | trivial) (z01 (z0B hk) ?_)) (z0G rfl rfl)))
        by_cases h1:c.last[k].no > a.no
        ·exact z01 (decide_eq_true h1) rfl
        ·have h2:c.many=1000000:=hst.resolve_left h1;exact z00 (fun h=>h1 (of_decide_eq_true h)) (z00 (by simp) (by rw[h2]; rfl))
      ·have h1:¬c.last[k].no > a.no:=fun h=>hst (.inl h);have h2:(c.many==1000000)=false:=by simpa using (fun h=>hst (.inr h):¬c.many=1000000)
       refine⟨c',d,true,hc',fun _=>hgood (.inl hb) (fun h=>hst (.inr h)),⟨fun _ _=>rfl,fun _=>⟨hw,.inr (hnew hnw)⟩⟩,?_,?_⟩
       ·refine z03 hI (z05 (by simp) (z03 hown (z03 hfind ?_)));simp only[P0,P1,D.b_bool,D.i_int,Int.toNat_natCast,hgk,fk1,hno',h2];refine z06 (l:=[c.d]) (z0b (l:=[.bool false]) (z01 (by first | rfl | trivial) (z01 (z0B hk) rfl)) (z00 (by simp) (z0b (l:=[.bool false]) (z0b (l:=[.bool false]) (z01 (by first | rfl | trivial) (z01 (z0B hk) (by simp[ou]; omega))) (z00 (by simp) (z0b (l:=[.bool false]) (z00 (by simp) rfl) (z00 (by simp) rfl)))) (z00 (by simp) (z00 (by simp) rfl))))) ?_
        exact tailI (c.last.map Dn.d) _ rfl (by simpa using hk) (by rw[zQG hk])
       ·refine z03 hS (z05 (by simp) (z06 hloop ?_));simp only[g0];refine z06 hhas ?_;simp only[z16,D.b_bool,Int.toNat_natCast,hgk,fk1,hno',h2];exact z06 (l:=[.bool false]) (z01 (by first | rfl | trivial) (z01 (z0B hk) rfl)) (z05 (by simp) (z06 (l:=[.bool false]) (z01 (by first | rfl | trivial) (z01 (z0B hk) (z00 (fun h=>h1 (of_decide_eq_true h)) (z00 (by simp) rfl)))) (z05 (by simp) tailS)))
   | false=>
     rw[hb]at hfind hhas tailI tailS;have hnw:¬Was c a.client a.no:=by
      rintro⟨k',h',w1,w2⟩;have:=hwk k' h' w1;subst this;have:=kb.2 ⟨h',w1⟩;rw[hb]at this; cases this
     by_cases hst:c.last.length=8\/c.many=1000000
     ·refine⟨nulC,Dn.nul,false,hnC,by simp,⟨fun _ h=>absurd h hnw,fun h=>(by cases h)⟩,?_,?_⟩
      ·refine z03 hI (z05 (by simp) (z03 hown (z03 hfind ?_)));simp only[P0,P1,D.b_bool,D.i_int,Int.toNat_natCast];refine z8o (l:=[nulC.d,Dn.nul.d,.bool false]) (z0b (l:=[.bool false]) (z00 (by simp) rfl) (z00 (by simp) (z0b (l:=[.bool true]) (z0b (l:=[.bool false]) (z00 (by simp) rfl) (z00 (by simp) ?_)) (z01 rfl rfl)))) (z8p rfl);by_cases h1:c.last.length=8
       ·exact z0b (l:=[.bool true]) (z01 rfl (by rw[h1]; rfl)) (z01 rfl rfl)
       ·have h2:c.many=1000000:=hst.resolve_left h1;exact z0b (l:=[.bool false]) (z01 rfl (by simp[ou]; omega)) (z00 (by simp) (by rw[h2]; rfl))
      ·refine z03 hS (z05 (by simp) (z06 hloop ?_));simp only[g0];refine z06 hhas ?_;simp only[z16,D.b_bool,Int.toNat_natCast];refine z06 (l:=[.bool false]) (z00 (by simp) rfl) (z05 (by simp) (z06 (l:=[.bool true]) (z00 (by simp) (z01 rfl ?_)) (z0G rfl rfl)));by_cases h1:c.last.length=8
       ·exact z01 (by rw[h1]; rfl) rfl
       ·have h2:c.many=1000000:=hst.resolve_left h1;exact z00 (by simp; omega) (by rw[h2]; rfl)
     ·have h1:((c.last.length:Int)==8)=false:=by simp; omega
      have h2:(c.many==1000000)=false:=by simpa using (fun h=>hst (.inr h):¬c.many=1000000)
      refine⟨c',d,true,hc',fun _=>hgood (.inr (fun h=>hst (.inl h))) (fun h=>hst (.inr h)),⟨fun _ _=>rfl,fun _=>⟨hw,.inr (hnew hnw)⟩⟩,?_,?_⟩
      ·refine z03 hI (z05 (by simp) (z03 hown (z03 hfind ?_)));simp only[P0,P1,D.b_bool,D.i_int,Int.toNat_natCast,h1,h2,c1];have hins:z1H.F [.lst (c.last.map Dn.d),.int (k:Int),(D.lst ((.pair (.int 0) (.pair (.int 0) (.pair (.int 0) (.pair (.int 0) .unit))))::([]:List D)))]=some (.lst ((c.last.map Dn.d).take k++[Dn.nul.d]++(c.last.map Dn.d).drop k)):=by
        show insF 32 [.lst (c.last.map Dn.d),.int (k:Int),(D.lst [Dn.nul.d])]=_;unfold insF;dsimp only;rw[if_pos]
        ·rfl
        ·exact⟨⟨by simp,by simpa using k1⟩,by simp,z1F (by simp; omega) (by simp; omega) (by decide)⟩
       refine z06 (l:=[.pair c.zone.d (.pair (.lst ((c.last.map Dn.d).take k++[Dn.nul.d]++(c.last.map Dn.d).drop k)) (.pair (.int c.many) .unit))]) (z0b (l:=[.bool false]) (z00 (by simp) rfl) (z00 (by simp) (z0b (l:=[.bool false]) (z0b (l:=[.bool false]) (z00 (by simp) rfl) (z00 (by simp) (z0b (l:=[.bool false]) (z01 rfl rfl) (z00 (by simp) rfl)))) (z00 (by simp) (z01 rfl (z04 hins rfl)))))) ?_;exact tailI _ _ rfl (by simp; omega) (by rw[zQF k1])
      ·refine z03 hS (z05 (by simp) (z06 hloop ?_));simp only[g0];refine z06 hhas ?_;simp only[z16,D.b_bool,Int.toNat_natCast,h1,h2];exact z06 (l:=[.bool false]) (z00 (by simp) rfl) (z05 (by simp) (z06 (l:=[.bool false]) (z00 (by simp) (z01 rfl (z00 (by simp) rfl))) (z05 (by simp) tailS)))
theorem zT6 {c:Ctl} {a:Ask} (hc:c.In lim) (hg:CGood c) (ha:a.In lim):∃(c':Ctl) (d:Dn) (b:Bool),c'.In lim/\(b=true->CGood c')/\z1G.F [c.d,a.d]=some (takD c' d b)/\z2h.F [c.d,a.d]=some (takD c' d b):=by
 obtain⟨c',d,b,h1,h2,_,h3,h4⟩:=zPf hc hg ha
 exact⟨c',d,b,h1,h2,h3,h4⟩
end Go.Proofs.YtilejnnnkfjmmaaGreatDoor
namespace Go.Proofs.YtilejnnnkfjmmaaGreatDoor
open Go Go.Own
theorem zOi {apex:List UInt8} (h:z7M apex=true):CGood (z5Z apex):=by
 have he:z5Z apex=newC apex:=by unfold z5Z; rw[if_pos h]
 rw[he]
 refine⟨?_,⟨Int.le_refl 0,by show(0:Int)<=1000000; decide⟩,by simp[newC],fun i j hi=>by simp[newC]at hi⟩
 show(newZ apex).Good
 exact Zn.good_iff.1 (by rw[zLG]; exact h)
def TkOk (c:Ctl) (a:Ask) (t:Ctl×Dn×Bool):Prop:=t.1.In lim/\(t.2.2=true->CGood t.1)/\z1G.F [c.d,a.d]=some (takD t.1 t.2.1 t.2.2)/\z2h.F [c.d,a.d]=some (takD t.1 t.2.1 t.2.2)
open Classical in
noncomputable def tk (c:Ctl) (a:Ask):Ctl×Dn×Bool:=if h:∃t,TkOk c a t then Classical.choose h else(c,Dn.nul,false)
theorem zSu {c:Ctl} {a:Ask} (hc:c.In lim) (hg:CGood c) (ha:a.In lim):TkOk c a (tk c a):=by
 have h:∃t,TkOk c a t:=by
  obtain⟨c',d,b,h1,h2,h3,h4⟩:=zT6 hc hg ha;exact⟨(c',d,b),h1,h2,h3,h4⟩
 unfold tk
 rw[dif_pos h]
 exact Classical.choose_spec h
noncomputable def pst (c:Ctl) (l:List Ask):Nat->Ctl×List Dn
 | 0=>(c,[])
 | i+1=>
   let t:=tk (pst c l i).1 (l.getD i ⟨0,0,[]⟩)
   (if t.2.2=true then t.1 else(pst c l i).1,(pst c l i).2++[t.2.1])
theorem zS8 {c:Ctl} {l:List Ask} (hc:c.In lim) (hg:CGood c) (hl:∀a∈l,a.In lim):∀i,i<=l.length->(pst c l i).1.In lim/\CGood (pst c l i).1/\(pst c l i).2.length=i
 | 0,_=>⟨hc,hg,rfl⟩
 | i+1,hi=>by
   obtain⟨h1,h2,h3⟩:=zS8 hc hg hl i (by omega);have ha:(l.getD i ⟨0,0,[]⟩).In lim:=by
    rw[List.getD_eq_getElem?_getD,List.getElem?_eq_getElem (show i<l.length by omega)];exact hl _ (List.getElem_mem _)
   obtain⟨t1,t2,_,_⟩:=zSu h1 h2 ha;unfold pst;refine⟨?_,?_,by simp[h3]⟩
   ·dsimp only;split
    ·exact t1
    ·exact h1
   ·dsimp only;split
    ·rename_i hb;exact t2 hb
    ·exact h2
def plyD (c:Ctl) (ds:List Dn) (b:Bool):D:=.pair c.d (.pair (.lst (ds.map Dn.d)) (.pair (.bool b) .unit))
theorem zS3 {xs:List Ask} {i:Nat} (hi:i<xs.length):gd (xs.map Ask.d) i=xs[i].d:=z7L hi
theorem zFR {apex:List UInt8} {l:List Ask} (h:apex.length<=lim) (hl:l.length<=lim) (ha:∀a∈l,a.In lim):∃(c':Ctl) (ds:List Dn) (b:Bool),c'.In lim/\c'.last.length<=8/\ds.length<=40 /\
 z4U.F [.str apex,.lst (l.map Ask.d)]=some (plyD c' ds b)/\z34.F [.str apex,.lst (l.map Ask.d)]=some (plyD c' ds b):=by
 have hlim:lim=1048576:=rfl
 have hI:=zKb h
 have hS:=zE2 h
 have hll:(D.lst (l.map Ask.d)).l=l.map Ask.d:=rfl
 have N0:(zOh apex).fld 0=(z5Z apex).d:=rfl
 have N1:((zOh apex).fld 1).b=z7M apex:=rfl
 have hn:nulC.In lim:=⟨⟨by simp[nulC],by simp[nulC],by simp[nulC]⟩,by simp[nulC]⟩
 rw[zEg,zEq]
 simp only[hll,List.length_map]
 cases hp:z7M apex with
 | false=>
   rw[hp]at N1;exact⟨nulC,[],false,hn,by simp[nulC],by simp,z03 hI (z06 (l:=[.bool true]) (z01 (by rw[N1]; rfl) rfl) (z0G rfl rfl)),z03 hS (z06 (l:=[.bool true]) (z01 (by rw[N1]; rfl) rfl) (z0G rfl rfl))⟩
 | true=>
   rw[hp]at N1;by_cases h40:l.length<=40
   ·have e40:decide ((l.length:Int) > 40)=false:=decide_eq_false (by omega);have hc0:=(zRV h).1;have hg0:=zOi hp;have hst:=zS8 hc0 hg0 ha;obtain⟨hcE,hgE,hlE⟩:=hst l.length (Nat.le_refl _);have e0:∀x y z:D,gd [x,y,z] 0=x:=fun _ _ _=>rfl;have e1:∀x y z:D,gd [x,y,z] 1=y:=fun _ _ _=>rfl;have e2:∀x y z:D,gd [x,y,z] 2=z:=fun _ _ _=>rfl;have T0:∀(c:Ctl) (d:Dn) (b:Bool),(takD c d b).fld 0=c.d:=fun _ _ _=>rfl;have T1:∀(c:Ctl) (d:Dn) (b:Bool),(takD c d b).fld 1=d.d:=fun _ _ _=>rfl;have T2:∀(c:Ctl) (d:Dn) (b:Bool),((takD c d b).fld 2).b=b:=fun _ _ _=>rfl;have hget:∀i (hi:i<l.length),l.getD i ⟨0,0,[]⟩=l[i]:=fun i hi=>by
     rw[List.getD_eq_getElem?_getD,List.getElem?_eq_getElem hi]; rfl
    have hpick:∀i (hi:i<l.length),((if (tk (pst (z5Z apex) l i).1 l[i]).2.2=true then ou 0 [(tk (pst (z5Z apex) l i).1 l[i]).1.d]else ou 0 [(pst (z5Z apex) l i).1.d]):Outc)=some (0,[(pst (z5Z apex) l (i+1)).1.d]):=by
     intro i hi;show _=some (0,[(if (tk (pst (z5Z apex) l i).1 (l.getD i ⟨0,0,[]⟩)).2.2=true then(tk (pst (z5Z apex) l i).1 (l.getD i ⟨0,0,[]⟩)).1 else(pst (z5Z apex) l i).1).d]);rw[hget i hi];split <;> rfl
    have hout:∀i (hi:i<l.length),(pst (z5Z apex) l i).2.map Dn.d++[(tk (pst (z5Z apex) l i).1 l[i]).2.1.d]=(pst (z5Z apex) l (i+1)).2.map Dn.d:=by
     intro i hi;show _=((pst (z5Z apex) l i).2++[(tk (pst (z5Z apex) l i).1 (l.getD i ⟨0,0,[]⟩)).2.1]).map Dn.d;rw[hget i hi,List.map_append]; rfl
    refine⟨(pst (z5Z apex) l l.length).1,(pst (z5Z apex) l l.length).2,true,hcE,hgE.len,by omega,?_,?_⟩
    ·refine z03 hI (z06 (l:=[.bool false]) (z00 (by rw[N1]; simp) (by rw[e40])) (z05 (by simp) ?_));rw[N0];refine z0L (z2Q (fun i (s:Ctl×List Dn)=>[s.1.d,.lst (s.2.map Dn.d),.int (i:Int)]) l.length (pst (z5Z apex) l) (t:=0) (o:=[(pst (z5Z apex) l l.length).1.d,.lst ((pst (z5Z apex) l l.length).2.map Dn.d)]) rfl ?_ ?_) rfl
     ·intro i hi;obtain⟨p1,p2,p3⟩:=hst i (by omega);obtain⟨_,_,k1,k2⟩:=zSu p1 p2 (ha _ (List.getElem_mem hi));simp only[e0,e1,e2,D.i_int,D.l_lst,Int.toNat_natCast,zS3 hi];refine z01 (by simpa using hi) (z01 (z0B hi) (z04 k1 ?_));rw[T0,T1,T2];refine z0b (hpick i hi) (z01 (z1F (by simp; omega) (by simp; omega) (by decide)) ?_);rw[hout i hi,z0P hi (by rw[z0c]; omega)]; rfl
     ·simp only[e0,e1,e2,D.i_int];exact z00 (by simp) rfl
    ·refine z03 hS (z06 (l:=[.bool false]) (z00 (by rw[N1]; simp) (by rw[e40])) (z05 (by simp) ?_));rw[N0];refine z0L (z2Q (fun i (s:Ctl×List Dn)=>[s.1.d,.lst (s.2.map Dn.d),.int (i:Int)]) l.length (pst (z5Z apex) l) (t:=0) (o:=[(pst (z5Z apex) l l.length).1.d,.lst ((pst (z5Z apex) l l.length).2.map Dn.d)]) rfl ?_ ?_) (z8p (z03 (zIv hcE) rfl))
     ·intro i hi;obtain⟨p1,p2,p3⟩:=hst i (by omega);obtain⟨_,_,k1,k2⟩:=zSu p1 p2 (ha _ (List.getElem_mem hi));simp only[e0,e1,e2,D.i_int,D.l_lst,Int.toNat_natCast,zS3 hi];refine z01 (by simpa using hi) (z01 (z0B hi) (z04 (zIv p1) (z04 k2 ?_)));rw[T0,T1,T2];refine z0b (hpick i hi) (z01 (z1F (by simp; omega) (by simp; omega) (by decide)) ?_);rw[hout i hi,z0P hi (by rw[z0c]; omega)]; rfl
     ·simp only[e0,e1,e2,D.i_int];exact z00 (by simp) rfl
   ·have e40:decide ((l.length:Int) > 40)=true:=decide_eq_true (by omega);exact⟨nulC,[],false,hn,by simp[nulC],by simp,z03 hI (z06 (l:=[.bool true]) (z00 (by rw[N1]; simp) (by rw[e40])) (z0G rfl rfl)),z03 hS (z06 (l:=[.bool true]) (z00 (by rw[N1]; simp) (by rw[e40])) (z0G rfl rfl))⟩
end Go.Proofs.YtilejnnnkfjmmaaGreatDoor
namespace Go.Own
variable [Glb]
open Go
def cuD (bs:List D) (p:Nat) (a:Int):D:=.pair (.lst bs) (.pair (.int p) (.pair (.int a) .unit))
def Cu (bs:List D) (k:Nat) (c:D):Prop:=∃p a,c=cuD bs p a/\p<=k
theorem Cu.mono {bs:List D} {k m:Nat} {c:D} (h:Cu bs k c) (hk:k<=m):Cu bs m c:=by
 obtain⟨p,a,rfl,h⟩:=h; exact⟨p,a,rfl,by omega⟩
def z7v (bs:List D):Prop:=∀x∈bs,∃n:Int,x=.int n/\0<=n/\n<=255
theorem zKM {B:Nat} {o:Bool} {d:D} (h:Sm B (.lst o (.int .u8)) d):∃bs,d=.lst bs/\z7v bs:=by
 obtain⟨xs,rfl,_,h⟩:=h
 refine⟨xs,rfl,fun x hx=>?_⟩
 obtain⟨n,rfl,h1,h2⟩:=h x hx
 have e1:IntKind.min .u8=0:=by decide
 have e2:IntKind.max .u8=255:=by decide
 exact⟨n,rfl,by omega,by omega⟩
theorem zSx (x:Int):∃n:Nat,(D.ofBin (zFL .and .u64 x 255)).i=(n:Int)/\n<=255:=by
 have h1:(BitVec.ofInt 64 x &&& BitVec.ofInt 64 255).toNat<=255:=by
  rw[BitVec.toNat_and];exact Nat.le_trans Nat.and_le_right (by decide)
 refine⟨_,?_,h1⟩
 show IntKind.wrap .u64 ((BitVec.ofInt 64 x &&& BitVec.ofInt 64 255).toNat:Int)=_
 generalize (BitVec.ofInt 64 x &&& BitVec.ofInt 64 255).toNat=m at h1
 have:IntKind.wrap .u64 (m:Int)=(m:Int) % 18446744073709551616:=by
  simp[IntKind.wrap,IntKind.bits,IntKind.signed]
 rw[this]
 omega
end Go.Own
namespace Go.Proofs.YtilejnnnkfjmmaaGreatDoor
open Go Go.Own
theorem zS1 {bs:List D} (hb:z7v bs) {k:Nat} {c:D} (hc:Cu bs k c) (hk:k<=1000000) :
 ∃(n:Nat) (c':D),z3I.F [c]=some (.pair (.int n) (.pair c' .unit))/\n<=255/\Cu bs (k+1) c':=by
 obtain⟨p,a,rfl,hp⟩:=hc
 rw[zDS]
 have f0:((cuD bs p a).fld 0).l=bs:=rfl
 have f1:((cuD bs p a).fld 1).i=p:=rfl
 have f2:((cuD bs p a).fld 2).i=a:=rfl
 have hw:IntKind.wrap .i64 ((p:Int)+1)=((p+1:Nat):Int):=by rw[z0f] <;> omega
 have hset:∀x:Int,((cuD bs p a).setFld 1 (.int ((p+1:Nat):Int))).setFld 2 (.int x)=cuD bs (p+1) x:=fun _=>rfl
 simp only[f0,f1,f2,hw,hset]
 by_cases hlt:p<bs.length
 ·obtain⟨n,hn,hn0,hn1⟩:=hb _ (List.getElem_mem hlt);have hg:gd bs p=.int n:=(z9E hlt).trans hn;have hwn:IntKind.wrap .i64 n=n:=by rw[z0f] <;> omega
  obtain⟨m,rfl⟩:=Int.eq_ofNat_of_zero_le hn0;refine⟨m,cuD bs (p+1) _,z0L (r:=(0,[.int m])) (z01 (decide_eq_true (by omega)) (z01 (z0B hlt) ?_)) (z0G (decide_eq_true (by omega)) rfl),by omega,p+1,_,rfl,by omega⟩;simp[hg,hwn]
 ·obtain⟨m,hm,hm2⟩:=zSx ((IntKind.wrap .u64 ((IntKind.wrap .u64 ((IntKind.wrap .u64 (a*6364136223846793005))+(IntKind.wrap .u64 0)))+1442695040888963407)).fdiv (2 ^ min 40 (IntKind.bits .u64)));by_cases hle:((p+1:Nat):Int)<=(bs.length:Int)
  ·omega
  refine⟨m,cuD bs (p+1) (IntKind.wrap .u64 ((IntKind.wrap .u64 ((IntKind.wrap .u64 (a*6364136223846793005))+(IntKind.wrap .u64 0)))+1442695040888963407)),z0L (r:=(0,[.int 0])) (z00 (fun h=>by have:=of_decide_eq_true h; omega) rfl) (z05 (fun h=>hle (of_decide_eq_true h)) (z0G (by decide) ?_)),hm2,p+1,_,rfl,by omega⟩;simp only[z16,D.i_int,hm];have:IntKind.wrap .i64 (m:Int)=m:=by rw[z0f] <;> omega
  rw[this]; rfl
theorem zO6 {n:Nat} {x:Int} (hx:0<x):∃v:Nat,(n:Int).tmod x=v/\(v:Int)<x:=by
 rw[Int.tmod_eq_emod_of_nonneg (by omega)]
 have h1:=Int.emod_nonneg (n:Int) (show x≠0 by omega)
 have h2:=Int.emod_lt_of_pos (n:Int) hx
 exact⟨((n:Int) % x).toNat,by omega,by omega⟩
theorem zNf {bs:List D} (hb:z7v bs) {k:Nat} {c:D} (hc:Cu bs k c) (hk:k<=900000) (x:Int) :
 ∃(v:Nat) (c':D),z09.F [c,.int x]=some (.pair (.int v) (.pair c' .unit))/\((v:Int)<x\/v=0)/\Cu bs (k+2) c':=by
 rw[zDT]
 by_cases h1:x<=1
 ·exact⟨0,c,z0G (decide_eq_true h1) rfl,.inr rfl,hc.mono (by omega)⟩
 obtain⟨n,c1,hn,hn2,hc1⟩:=zS1 hb hc (by omega)
 by_cases h2:x > 200
 ·obtain⟨m,c2,hm,hm2,hc2⟩:=zS1 hb hc1 (by omega);have w:IntKind.wrap .i64 (IntKind.wrap .i64 ((n:Int)*256)+m)=((n*256+m:Nat):Int):=by
   rw[z0f (x:=(n:Int)*256) (by omega) (by omega),z0f] <;> omega
  obtain⟨v,hv,hv2⟩:=zO6 (n:=n*256+m) (x:=x) (by omega);refine⟨v,c2,z05 (fun h=>h1 (of_decide_eq_true h)) (z03 hn (z0L (r:=(0,[c2,.int ((n*256+m:Nat):Int)])) (z01 (decide_eq_true h2) (z04 hm ?_)) (z0G (by simp; omega) ?_))),.inl hv2,hc2.mono (by omega)⟩
  ·simp only[D.fld,D.fst_pair,D.snd_pair,D.i_int,w]
  ·simp only[z6K,z16,D.i_int,hv]; rfl
 ·obtain⟨v,hv,hv2⟩:=zO6 (n:=n) (x:=x) (by omega);refine⟨v,c1,z05 (fun h=>h1 (of_decide_eq_true h)) (z03 hn (z0L (r:=(0,[c1,.int n])) (z00 (fun h=>h2 (of_decide_eq_true h)) rfl) (z0G (by simp; omega) ?_))),.inl hv2,hc1.mono (by omega)⟩;simp[hv]
theorem zTb {bs:List D} (hb:z7v bs) {k:Nat} {c:D} (hc:Cu bs k c) (hk:k<=900000) (x:Int) :
 ∃(b:Bool) (c':D),z0h.F [c,.int x]=some (.pair (.bool b) (.pair c' .unit))/\Cu bs (k+2) c':=by
 obtain⟨v,c',h,_,hc'⟩:=zNf hb hc hk x
 rw[zEu]
 exact⟨_,c',z03 h rfl,hc'⟩
theorem f_of {bs:List D} (hb:z7v bs) {k:Nat} {c:D} (hc:Cu bs k c) (hk:k<=900000) {xs:List D} (hx:0<xs.length) :
 ∃(x:D) (c':D),z0m.F [c,.lst xs]=some (.pair x (.pair c' .unit))/\x∈xs/\Cu bs (k+2) c':=by
 obtain⟨v,c',h,hv,hc'⟩:=zNf hb hc hk xs.length
 have hlt:v<xs.length:=by omega
 rw[zGr]
 refine⟨gd xs v,c',z03 h (z0G (z0B hlt) ?_),?_,hc'⟩
 ·simp
 ·rw[z9E hlt]; exact List.getElem_mem hlt
theorem zSS {bs:List D} (hb:z7v bs) {k:Nat} {c:D} (hc:Cu bs k c) (hk:k<=900000) {xs:List D} (hx:0<xs.length) :
 ∃(x:D) (c':D),z0e.F [c,.lst xs]=some (.pair x (.pair c' .unit))/\x∈xs/\Cu bs (k+2) c':=by
 obtain⟨v,c',h,hv,hc'⟩:=zNf hb hc hk xs.length
 have hlt:v<xs.length:=by omega
 rw[zCF]
 refine⟨gd xs v,c',z03 h (z0G (z0B hlt) ?_),?_,hc'⟩
 ·simp
 ·rw[z9E hlt]; exact List.getElem_mem hlt
end Go.Proofs.YtilejnnnkfjmmaaGreatDoor
namespace Go.Own
open Go
def OKo (o:Outc) (Q:Nat×List D->Prop):Prop:=∃r,o=some r/\Q r
def Tot (o:Option D) (P:D->Prop):Prop:=∃d,o=some d/\P d
theorem z1x {t:Nat} {l:List D} {Q:Nat×List D->Prop} (h:Q (t,l)):OKo (ou t l) Q:=⟨_,rfl,h⟩
theorem z5a {c:Prop} [Decidable c] {a b:Outc} {Q:Nat×List D->Prop} (h1:c->OKo a Q) (h2:¬c->OKo b Q):OKo (if c then a else b) Q:=by
 split
 ·exact h1 ‹_›
 ·exact h2 ‹_›
theorem z8G {c:Prop} [Decidable c] {a b:Outc} {Q:Nat×List D->Prop} (h:c) (h1:OKo a Q):OKo (if c then a else b) Q:=by rw[if_pos h]; exact h1
theorem z4C {o:Outc} {k:Nat×List D->Outc} {P Q:Nat×List D->Prop} (h:OKo o P) (hk:∀r,P r->OKo (k r) Q):OKo (o.bind k) Q:=by
 obtain⟨r,rfl,hr⟩:=h; exact hk r hr
theorem z1C {o:Option D} {k:D->Outc} {P:D->Prop} {Q:Nat×List D->Prop} (h:Tot o P) (hk:∀d,P d->OKo (k d) Q):OKo (o.bind k) Q:=by
 obtain⟨r,rfl,hr⟩:=h; exact hk r hr
theorem zMp {o:Option D} {k:D->Outc} {d:D} {Q:Nat×List D->Prop} (h:o=some d) (hk:OKo (k d) Q):OKo (o.bind k) Q:=by
 rw[h]; exact hk
theorem ok_mono {o:Outc} {P Q:Nat×List D->Prop} (h:OKo o P) (hk:∀r,P r->Q r):OKo o Q:=by
 obtain⟨r,h,hr⟩:=h; exact⟨r,h,hk r hr⟩
theorem z4D {a:Outc} {b:Nat->Outc} {Q:Nat×List D->Prop} (h:OKo a Q):OKo (sel2 0 a b) Q:=h
def ResP (P:D->Prop) (r:Nat×List D):Prop:=∃d,r=(0,[d])/\P d
theorem z9n {o:Outc} {P:D->Prop} (h:OKo o (ResP P)):Tot (rn o) P:=by
 obtain⟨_,rfl,d,rfl,hd⟩:=h; exact⟨d,rfl,hd⟩
theorem zJX {f:List D->Outc} {Q:Nat×List D->Prop} (Inv:Nat->List D->Prop) (h:∀m l,Inv m l->OKo (f l) (fun r=>(∃m',m'<m/\r.1=0/\Inv m' r.2)\/(∃t,r.1=t+1/\Q (t,r.2)))):∀(m:Nat) {l:List D},Inv m l->OKo (z0d f l) Q:=by
 intro m
 induction m using Nat.strongRecOn with
 | ind m ih=>
   intro l hl;obtain⟨⟨t,o⟩,hf,hq⟩:=h m l hl;rcases hq with ⟨m',hm,rfl,hi⟩ | ⟨t',rfl,hq⟩
   ·obtain⟨r,hr,hQ⟩:=ih m' hm hi;exact⟨r,(z1m hf).trans hr,hQ⟩
   ·exact⟨_,z1B hf,hq⟩
def StrB (B:Nat) (d:D):Prop:=∃s:List UInt8,d=.str s/\s.length<=B
def IntD (d:D):Prop:=∃n:Int,d=.int n
def zTY (d:D):Prop:=∃n:Bool,d=.bool n
def Dr (bs:List D) (m:Nat) (P:D->Prop) (d:D):Prop:=∃x c',d=.pair x (.pair c' .unit)/\P x/\Cu bs m c'
def zRl (B:Nat):List D->Bool
 | []=>true
 | .str s::l=>decide (s.length<=B)&&zRl B l
 | _::_=>false
theorem zLw {B:Nat}:∀{l:List D},zRl B l=true->∀x∈l,StrB B x
 | [],_,x,hx=>by cases hx
 | .str s::l,h,x,hx=>by
   unfold zRl at h;simp only[Bool.and_eq_true,decide_eq_true_eq]at h;rcases List.mem_cons.1 hx with rfl | hx
   ·exact⟨s,rfl,h.1⟩
   ·exact zLw h.2 x hx
 | .unit::_,h,_,_=>by cases h
 | .int _::_,h,_,_=>by cases h
 | .bool _::_,h,_,_=>by cases h
 | .pair _ _::_,h,_,_=>by cases h
 | .lst _::_,h,_,_=>by cases h
def zRI:List D->Bool
 | []=>true
 | .int _::l=>zRI l
 | _::_=>false
theorem zL4:∀{l:List D},zRI l=true->∀x∈l,IntD x
 | [],_,x,hx=>by cases hx
 | .int s::l,h,x,hx=>by
   rcases List.mem_cons.1 hx with rfl | hx
   ·exact⟨s,rfl⟩
   ·exact zL4 (by unfold zRI at h; exact h) x hx
 | .unit::_,h,_,_=>by cases h
 | .str _::_,h,_,_=>by cases h
 | .bool _::_,h,_,_=>by cases h
 | .pair _ _::_,h,_,_=>by cases h
 | .lst _::_,h,_,_=>by cases h
end Go.Own
namespace Go.Proofs.YtilejnnnkfjmmaaGreatDoor
open Go Go.Own
variable {bs : List D} {k : Nat} {c : D}
theorem z6b (hb:z7v bs) (hc:Cu bs k c) (hk:k<=900000) (x:Int):Tot (z09.F [c,.int x]) (Dr bs (k+2) (fun d=>∃v:Nat,d=.int v/\((v:Int)<x\/v=0))):=by
 obtain⟨v,c',h,hv,hc'⟩:=zNf hb hc hk x
 exact⟨_,h,_,_,rfl,⟨v,rfl,hv⟩,hc'⟩
theorem zIn (hb:z7v bs) (hc:Cu bs k c) (hk:k<=900000) (x:Int):Tot (z0h.F [c,.int x]) (Dr bs (k+2) zTY):=by
 obtain⟨v,c',h,hc'⟩:=zTb hb hc hk x
 exact⟨_,h,_,_,rfl,⟨v,rfl⟩,hc'⟩
theorem d_of {B:Nat} {xs:List D} (hb:z7v bs) (hc:Cu bs k c) (hk:k<=900000) (hs:zRl B xs=true) (hx:0<xs.length):Tot (z0m.F [c,.lst xs]) (Dr bs (k+2) (StrB B)):=by
 obtain⟨v,c',h,hv,hc'⟩:=f_of hb hc hk hx
 exact⟨_,h,_,_,rfl,zLw hs v hv,hc'⟩
theorem zAj {xs:List D} (hb:z7v bs) (hc:Cu bs k c) (hk:k<=900000) (hs:zRI xs=true) (hx:0<xs.length):Tot (z0e.F [c,.lst xs]) (Dr bs (k+2) IntD):=by
 obtain⟨v,c',h,hv,hc'⟩:=zSS hb hc hk hx
 exact⟨_,h,_,_,rfl,zL4 hs v hv,hc'⟩
theorem zNT (hb:z7v bs) (hc:Cu bs k c) (hk:k<=900000):Tot (z2b.F [c]) (Dr bs (k+2) (StrB 20)):=by
 rw[zBG]
 refine z9n (z1C (d_of (B:=20) hb hc hk rfl (by simp)) ?_)
 rintro _ ⟨x,c',rfl,hx,hc'⟩
 exact z1x ⟨_,rfl,_,_,rfl,hx,hc'⟩
theorem zRx (hb:z7v bs) (hc:Cu bs k c) (hk:k<=800000):Tot (z2a.F [c]) (Dr bs (k+20) (StrB 100)):=by
 rw[zDR]
 have hsm:=z0c
 refine z9n (z1C (z6b hb hc (by omega) 40) ?_)
 rintro _ ⟨_,c1,rfl,⟨v,rfl,hv⟩,hc1⟩
 refine z5a (fun _=>z1C (d_of (B:=100) hb hc1 (by omega) rfl (by simp)) ?_) (fun _=>z5a (fun _=>z1C (d_of (B:=100) hb hc1 (by omega) rfl (by simp)) ?_) (fun _=>z1C (d_of (B:=20) hb hc1 (by omega) rfl (by simp)) ?_))
 ·rintro _ ⟨x,c',rfl,hx,hc'⟩;exact z1x ⟨_,rfl,_,_,rfl,hx,hc'.mono (by omega)⟩
 ·rintro _ ⟨x,c',rfl,hx,hc'⟩;exact z1x ⟨_,rfl,_,_,rfl,hx,hc'.mono (by omega)⟩
 ·rintro _ ⟨_,c2,rfl,⟨s,rfl,hs⟩,hc2⟩;refine z1C (z6b hb hc2 (by omega) 3) ?_;rintro _ ⟨_,c3,rfl,⟨n,rfl,hn⟩,hc3⟩;have hn3:n<=2:=by omega
  refine z4C (P:=fun r=>∃c' s,r=(0,[c',.str s])/\s.length<=100/\Cu bs (k+20) c') (zJX (fun m l=>∃c' s,l=[c',.str s,.int (m:Int)]/\m<=2/\s.length+25*m<=75/\Cu bs (k+6+2*(2-m)) c') ?_ n ⟨c3,s,rfl,hn3,by omega,hc3.mono (by omega)⟩) ?_
  ·rintro m _ ⟨c',s,rfl,hm,hs,hc'⟩;refine z5a (fun h=>z1C (d_of (B:=20) hb hc' (by omega) rfl (by simp)) ?_) (fun h=>z1x (.inr ⟨0,rfl,c',s,rfl,by omega,hc'.mono (by omega)⟩));rintro _ ⟨_,c4,rfl,⟨s4,rfl,hs4⟩,hc4⟩;have h0:(0:Int)<m:=of_decide_eq_true h;refine z8G (by simp[catOk]; omega) (z8G (by simp[catOk,gd]; omega) (z1x (.inl ⟨m-1,by omega,rfl,c4,(s4++[46])++s,?_,by omega,by simp; omega,hc4.mono (by omega)⟩)));have hw:IntKind.wrap .i64 ((m:Int)-1)=((m-1:Nat):Int):=by rw[z0f] <;> omega
   show [c4,D.str ((s4++[46])++s),D.int (IntKind.wrap .i64 ((m:Int)-1))]=_;rw[hw]
  ·rintro _ ⟨c',s,rfl,hs,hc'⟩;exact z4D (z1x ⟨_,rfl,_,_,rfl,⟨s,rfl,hs⟩,hc'⟩)
end Go.Proofs.YtilejnnnkfjmmaaGreatDoor
namespace Go.Proofs.YtilejnnnkfjmmaaGreatDoor
open Go Go.Own
def RecB (B:Nat) (d:D):Prop:=∃r:Rec,d=r.d/\r.In B
theorem Rec.In.mono {B C:Nat} {r:Rec} (h:r.In B) (hB:B<=C):r.In C:=⟨Nat.le_trans h.name hB,Nat.le_trans h.data hB⟩
def BatB (n B:Nat) (d:D):Prop:=∃l:List (Int×Rec),d=.lst (l.map chgD)/\l.length<=n/\∀p∈l,p.2.In B
variable {bs : List D} {k : Nat} {c : D}
theorem zLI {v:Nat} (h:v<=100):z1Z.F [.int v]=some (.str (Lib.itoa v))/\(Lib.itoa v).length<=18:=by
 have hp18:(10:Int) ^ 18=1000000000000000000:=by decide
 exact⟨zMa (by omega) (by omega),z3U (by omega) (by omega)⟩
def CR (bs:List D) (m B:Nat) (r:Nat×List D):Prop:=∃c' x,r=(0,[c',x])/\Cu bs m c'/\RecB B x
theorem zR6 (hb:z7v bs) (hc:Cu bs k c) (hk:k<=700000):Tot (z3S.F [c]) (Dr bs (k+50) (RecB 150)):=by
 rw[zBF]
 have hsm:=z0c
 refine z9n (z1C (zRx hb hc (by omega)) ?_)
 rintro _ ⟨_,c1,rfl,⟨n,rfl,hn⟩,hc1⟩
 refine z1C (zAj hb hc1 (by omega) rfl (by simp)) ?_
 rintro _ ⟨_,c2,rfl,⟨t,rfl⟩,hc2⟩
 refine z1C (zAj hb hc2 (by omega) rfl (by simp)) ?_
 rintro _ ⟨_,c3,rfl,⟨l,rfl⟩,hc3⟩
 have hc3':Cu bs (k+24) c3:=hc3.mono (by omega)
 have mk:∀(c':D) (s:List UInt8),Cu bs (k+30) c'->s.length<=100->CR bs (k+30) 150 (0,[c',.pair (.str n) (.pair (.int t) (.pair (.int l) (.pair (.str s) .unit)))]):=fun c' s h hs=>⟨_,_,rfl,h,⟨n,t,l,s⟩,rfl,⟨Nat.le_trans hn (by decide),Nat.le_trans hs (by decide)⟩⟩
 refine z4C (P:=CR bs (k+30) 150) ?_ ?_
 ·refine z5a (fun _=>z1C (d_of (B:=20) hb hc3' (by omega) rfl (by simp)) ?_) (fun _=>z4C (P:=fun r=>∃b:Bool,r=(0,[.bool b])) (z5a (fun _=>z1x ⟨_,rfl⟩) (fun _=>z1x ⟨_,rfl⟩)) ?_)
  ·rintro _ ⟨_,c4,rfl,⟨s,rfl,hs⟩,hc4⟩;exact z1x (mk _ _ (hc4.mono (by omega)) (by omega))
  ·rintro _ ⟨b,rfl⟩;refine z4D (z5a (fun _=>z1C (zNT hb hc3' (by omega)) ?_) (fun _=>z5a (fun _=>z1C (z6b hb hc3' (by omega) 20) ?_) (fun _=>z5a (fun _=>z1C (z6b hb hc3' (by omega) 30) ?_) (fun _=>z1C (d_of (B:=20) hb hc3' (by omega) rfl (by simp)) ?_))))
   ·rintro _ ⟨_,c4,rfl,⟨s,rfl,hs⟩,hc4⟩;exact z1x (mk _ _ (hc4.mono (by omega)) (by omega))
   ·rintro _ ⟨_,c4,rfl,⟨v,rfl,hv⟩,hc4⟩;obtain⟨h1,h2⟩:=zLI (v:=v) (by omega);refine zMp (d:=.str (Lib.itoa v)) h1 (z1x (mk _ _ (hc4.mono (by omega)) (by omega)))
   ·rintro _ ⟨_,c4,rfl,⟨v,rfl,hv⟩,hc4⟩;obtain⟨h1,h2⟩:=zLI (v:=v) (by omega);refine zMp (d:=.str (Lib.itoa v)) h1 (z8G (by simp[catOk]; omega) (z1C (zNT hb hc4 (by omega)) ?_));rintro _ ⟨_,c5,rfl,⟨s,rfl,hs⟩,hc5⟩;refine z8G (by simp[catOk,D.fld]; omega) (z1x (mk _ _ (hc5.mono (by omega)) ?_));show((Lib.itoa v++[32])++s).length<=100;simp; omega
   ·rintro _ ⟨_,c4,rfl,⟨s,rfl,hs⟩,hc4⟩;exact z1x (mk _ _ (hc4.mono (by omega)) (by omega))
 ·rintro _ ⟨c4,_,rfl,hc4,⟨r,rfl,hr⟩⟩;refine z4D (z4C (P:=CR bs (k+50) 150) ?_ ?_)
  ·refine z1C (z6b hb hc4 (by omega) 40) ?_;rintro _ ⟨_,c5,rfl,⟨v,rfl,hv⟩,hc5⟩;refine z5a (fun _=>z1C (zAj hb hc5 (by omega) rfl (by simp)) ?_) (fun _=>z5a (fun _=>z1C (d_of (B:=20) hb hc5 (by omega) rfl (by simp)) ?_) (fun _=>z5a (fun _=>z1C (z6b hb hc5 (by omega) 20) ?_) (fun _=>z1x ⟨_,_,rfl,hc5.mono (by omega),r,rfl,hr⟩)))
   ·rintro _ ⟨_,c6,rfl,⟨s,rfl⟩,hc6⟩;exact z1x ⟨_,_,rfl,hc6.mono (by omega),⟨r.name,r.type,s,r.data⟩,rfl,⟨hr.name,hr.data⟩⟩
   ·rintro _ ⟨_,c6,rfl,⟨s,rfl,hs⟩,hc6⟩;exact z1x ⟨_,_,rfl,hc6.mono (by omega),⟨r.name,r.type,r.ttl,s⟩,rfl,⟨hr.name,by simp only; omega⟩⟩
   ·rintro _ ⟨_,c6,rfl,⟨s,rfl,_⟩,hc6⟩;exact z1x ⟨_,_,rfl,hc6.mono (by omega),⟨r.name,s,r.ttl,r.data⟩,rfl,⟨hr.name,hr.data⟩⟩
  ·rintro _ ⟨c5,_,rfl,hc5,hx⟩;exact z4D (z1x ⟨_,rfl,_,_,rfl,hx,hc5⟩)
theorem zR5 (hb:z7v bs) (hc:Cu bs k c) (hk:k<=600000):Tot (z3R.F [c]) (Dr bs (k+80) (RecB 150)):=by
 rw[zBE]
 refine z9n (z1C (zR6 hb hc (by omega)) ?_)
 rintro _ ⟨_,c1,rfl,⟨r,rfl,hr⟩,hc1⟩
 refine z1C (zIn hb hc1 (by omega) 12) ?_
 rintro _ ⟨_,c2,rfl,⟨b,rfl⟩,hc2⟩
 refine z5a (fun _=>z1x ⟨_,rfl,_,_,rfl,⟨r,rfl,hr⟩,hc2.mono (by omega)⟩) (fun _=>z1C (d_of (B:=20) hb hc2 (by omega) rfl (by simp)) ?_)
 rintro _ ⟨_,c3,rfl,⟨n,rfl,hn⟩,hc3⟩
 refine z4C (P:=CR bs (k+60) 150) ?_ ?_
 ·refine z4C (P:=fun x=>∃(c':D) (b:Bool),x=(0,[c',.bool b])/\Cu bs (k+60) c') ?_ ?_
  ·refine z5a (fun _=>z1C (zIn hb hc3 (by omega) 4) ?_) (fun _=>z1x ⟨_,_,rfl,hc3.mono (by omega)⟩);rintro _ ⟨_,c4,rfl,⟨b,rfl⟩,hc4⟩;exact z1x ⟨_,_,rfl,hc4.mono (by omega)⟩
  ·rintro _ ⟨c',b,rfl,hc'⟩;exact z4D (z5a (fun _=>z1x ⟨_,_,rfl,hc',⟨n,1,60,[49,46,50,46,51,46,52]⟩,rfl,⟨by simp only; omega,by show 7<=150; decide⟩⟩) (fun _=>z1x ⟨_,_,rfl,hc',⟨n,r.type,60,r.data⟩,rfl,⟨by simp only; omega,hr.data⟩⟩))
 ·rintro _ ⟨c4,_,rfl,hc4,⟨r2,rfl,hr2⟩⟩;refine z4D (z4C (P:=CR bs (k+80) 150) (z4C (P:=fun x=>∃(c':D) (b:Bool),x=(0,[c',.bool b])/\Cu bs (k+80) c') ?_ ?_) ?_)
  ·refine z5a (fun _=>z5a (fun _=>z1C (zIn hb hc4 (by omega) 2) ?_) (fun _=>z1x ⟨_,_,rfl,hc4.mono (by omega)⟩)) (fun _=>z1x ⟨_,_,rfl,hc4.mono (by omega)⟩);rintro _ ⟨_,c5,rfl,⟨b,rfl⟩,hc5⟩;exact z1x ⟨_,_,rfl,hc5.mono (by omega)⟩
  ·rintro _ ⟨c',b,rfl,hc'⟩;exact z4D (z5a (fun _=>z1x ⟨_,_,rfl,hc',⟨r2.name,2,r2.ttl,[110,115,46,115,117,98,46,101,120,46,99,111,109]⟩,rfl,⟨hr2.name,by show 13<=150; decide⟩⟩) (fun _=>z1x ⟨_,_,rfl,hc',r2,rfl,hr2⟩))
  ·rintro _ ⟨c5,_,rfl,hc5,hx⟩;exact z4D (z1x ⟨_,rfl,_,_,rfl,hx,hc5⟩)
theorem upd_chg {p:Int×Rec} {l:List (Int×Rec)} {v:Int}:upd ((p::l).map chgD) 0 0 (.int v)=(((v,p.2)::l).map chgD):=rfl
theorem zSM (hb:z7v bs) (hc:Cu bs k c) (hk:k<=500000):Tot (z3k.F [c]) (Dr bs (k+2000) (BatB 13 150)):=by
 rw[zCG]
 have hsm:=z0c
 refine z9n (z1C (z6b hb hc (by omega) 3) ?_)
 rintro _ ⟨_,c1,rfl,⟨v,rfl,hv⟩,hc1⟩
 refine z4C (P:=fun x=>∃(c':D) (n:Nat),x=(0,[c',.int (n:Int)])/\Cu bs (k+10) c'/\1<=n/\n<=13) ?_ ?_
 ·refine z1C (zIn hb hc1 (by omega) 40) ?_;rintro _ ⟨_,c2,rfl,⟨b,rfl⟩,hc2⟩;refine z5a (fun _=>z1C (z6b hb hc2 (by omega) 2) ?_) (fun _=>z1x ?_)
  ·rintro _ ⟨_,c3,rfl,⟨w,rfl,hw⟩,hc3⟩;have hww:IntKind.wrap .i64 (12+(w:Int))=((12+w:Nat):Int):=by rw[z0f] <;> omega
   refine z1x ⟨c3,12+w,?_,hc3.mono (by omega),by omega,by omega⟩;rw[<- hww]; rfl
  ·have hww:IntKind.wrap .i64 (1+(v:Int))=((1+v:Nat):Int):=by rw[z0f] <;> omega
   refine⟨c2,1+v,?_,hc2.mono (by omega),by omega,by omega⟩;rw[<- hww]; rfl
 ·rintro _ ⟨c2,n,rfl,hc2,hn1,hn⟩;refine z4D (z4C (P:=fun r=>∃(c':D) (l:List (Int×Rec)),r=(0,[c',.lst (l.map chgD)])/\0<l.length/\l.length<=13/\(∀p∈l,p.2.In 150)/\Cu bs (k+10+100*13) c') (zJX (fun m l=>∃(c':D) (xs:List (Int×Rec)),l=[c',.lst (xs.map chgD),.int (m:Int)]/\xs.length+m=n/\(∀p∈xs,p.2.In 150)/\Cu bs (k+10+100*xs.length) c') ?_ n ⟨c2,[],rfl,by simp,by simp,hc2.mono (by simp)⟩) ?_)
  ·rintro m _ ⟨c',xs,rfl,hm,hx,hc'⟩;refine z5a (fun h=>z1C (zAj hb hc' (by omega) rfl (by simp)) ?_) (fun h=>z1x (.inr ⟨0,rfl,c',xs,rfl,?_,by omega,hx,hc'.mono (by omega)⟩))
   ·rintro _ ⟨_,c4,rfl,⟨t,rfl⟩,hc4⟩;refine z1C (zR5 hb hc4 (by omega)) ?_;rintro _ ⟨_,c5,rfl,⟨r,rfl,hr⟩,hc5⟩;have h0:(0:Int)<m:=of_decide_eq_true h;have happ:appOk 56 (xs.map chgD) [chgD (t,r)]=true:=by simp[appOk]; omega
    have hw:IntKind.wrap .i64 ((m:Int)-1)=((m-1:Nat):Int):=by rw[z0f] <;> omega
    refine z8G happ (z1x (.inl ⟨m-1,by omega,rfl,c5,xs++[(t,r)],?_,by simp; omega,?_,hc5.mono (by simp; omega)⟩))
    ·show [c5,D.lst (xs.map chgD++[chgD (t,r)]),D.int (IntKind.wrap .i64 ((m:Int)-1))]=_;rw[hw]; simp
    ·intro p hp;rcases List.mem_append.1 hp with hp | hp
     ·exact hx p hp
     ·rw[List.mem_singleton.1 hp]; exact hr
   ·have h0:¬(0:Int)<m:=fun hh=>h (decide_eq_true hh);omega
  ·rintro _ ⟨c3,l,rfl,hl0,hl,hx,hc3⟩;refine z4D (z4C (P:=fun r=>∃(c':D) (l:List (Int×Rec)),r=(0,[c',.lst (l.map chgD)])/\l.length<=13/\(∀p∈l,p.2.In 150)/\Cu bs (k+2000) c') ?_ ?_)
   ·refine z1C (zIn hb hc3 (by omega) 60) ?_;rintro _ ⟨_,c4,rfl,⟨b,rfl⟩,hc4⟩;refine z5a (fun _=>z1C (z6b hb hc4 (by omega) 6) ?_) (fun _=>z1x ⟨_,_,rfl,hl,hx,hc4.mono (by omega)⟩);rintro _ ⟨_,c5,rfl,⟨v,rfl,_⟩,hc5⟩
    match l,hl0,hl,hx with
    | p::l,_,hl,hx=>
      refine z8G (z0B (by simp)) (z1x ⟨c5,((v:Int),p.2)::l,rfl,hl,?_,hc5.mono (by omega)⟩);intro q hq;rcases List.mem_cons.1 hq with rfl | hq
      ·exact hx p (by simp)
      ·exact hx q (by simp[hq])
   ·rintro _ ⟨c4,l,rfl,hl,hx,hc4⟩;exact z4D (z1x ⟨_,rfl,_,_,rfl,⟨l,rfl,hl,hx⟩,hc4⟩)
end Go.Proofs.YtilejnnnkfjmmaaGreatDoor
