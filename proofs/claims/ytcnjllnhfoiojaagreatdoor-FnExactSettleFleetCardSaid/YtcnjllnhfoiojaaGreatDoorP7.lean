/- What the functions compute, in plain words. -/
import Derived.Test.YtcnjllnhfoiojaaGreatDoorP6
set_option linter.unusedSectionVars false
set_option linter.unusedVariables false
set_option linter.unusedSimpArgs false
namespace Go.Proofs.YtcnjllnhfoiojaaGreatDoor
open Go Go.Own
def idxJ (xs:List Dif) (n:Int):Nat:=xs.findIdx fun x=>x.to'==n
def zA4 (j:Jrn) (n:Int):List Dif×Bool:=if n=j.first then(j.diffs,true)else if idxJ j.diffs n<j.diffs.length then(j.diffs.drop (idxJ j.diffs n+1),true)else([],false)
def frD (ds:List Dif) (b:Bool):D:=.pair (.lst (ds.map Dif.d)) (.pair (.bool b) .unit)
theorem zSA {j:Jrn} {n:Int}:∀x∈(zA4 j n).1,x∈j.diffs:=by
 intro x
 unfold zA4
 split
 ·exact id
 ·split
  ·exact fun h=>List.mem_of_mem_drop h
  ·intro h; cases h
theorem zS9 {j:Jrn} {n:Int}:(zA4 j n).1.length<=j.diffs.length:=by
 unfold zA4
 split
 ·exact Nat.le_refl _
 ·split
  ·simp
  ·simp
theorem zSG {xs:List Dif} {n:Int} {i:Nat} (h:i<xs.length) (hi:i<idxJ xs n):(xs[i].to'==n)=false:=by
 have:=List.not_of_lt_findIdx (p:=fun x:Dif=>x.to'==n) hi
 simpa using this
theorem zSE {xs:List Dif} {n:Int} (h:idxJ xs n<xs.length):(xs[idxJ xs n].to'==n)=true:=
 List.findIdx_getElem (p:=fun x:Dif=>x.to'==n) (w:=h)
theorem zSF (xs:List Dif) (n:Int):idxJ xs n<=xs.length:=List.findIdx_le_length
theorem zUs {xs:List Dif} {n:Int} (hl:xs.length<=lim):z0V.F [.lst (xs.map Dif.d),.pair (.int n) .unit]=some (.int (if idxJ xs n<xs.length then(idxJ xs n:Int)else -1)):=by
 have hsm:=Nat.le_trans hl z0R
 have one:∀x:Dif,z2v.F [x.d,.int n]=some (.bool (x.to'==n)):=fun x=>by
  rw[zCG]; rfl
 have hll:(D.lst (xs.map Dif.d)).l=xs.map Dif.d:=rfl
 have f0:(D.pair (.int n) .unit).fld 0=.int n:=rfl
 rw[z2o]
 simp only[hll,f0,List.length_map]
 have hle:=zSF xs n
 have step:∀i,i<idxJ xs n->(fun l2=>
  if (decide ((gd l2 0).i<((xs.length:Nat):Int)))then
   if (inb (gd l2 0).i xs.length)then
   (z2v.F [(gd (xs.map Dif.d) (gd l2 0).i.toNat),.int n]).bind fun r3=>
   if r3.b then
    ou 1 [(gd l2 0)]
   else
    ou 0 [(.int (IntKind.wrap .i64 ((gd l2 0).i+1)))]
   else none
  else
   ou 2 []:List D->Outc) [.int (i:Int)]=some (0,[.int ((i+1:Nat):Int)]):=by
  intro i hi;have hi':i<xs.length:=by omega
  have hg:gd (xs.map Dif.d) i=xs[i].d:=z2Q hi';simp only[z0k,D.i_int,Int.toNat_natCast,hg];refine z03 (by simpa using hi') (z03 (z0A hi') (z01 (one _) (z00 (by rw[D.b_bool,zSG hi' hi]; simp) ?_)));rw[z0B hi' hsm]
 by_cases h:idxJ xs n<xs.length
 ·rw[if_pos h];refine z06 (z0u (fun i (_:Unit)=>[.int (i:Int)]) (idxJ xs n) (fun _=>()) (t:=0) (o:=[.int (idxJ xs n:Int)]) rfl step ?_) rfl;have hg:gd (xs.map Dif.d) (idxJ xs n)=xs[idxJ xs n].d:=z2Q h;simp only[z0k,D.i_int,Int.toNat_natCast,hg];exact z03 (by simpa using h) (z03 (z0A h) (z01 (one _) (z03 (by rw[D.b_bool,zSE h]) rfl)))
 ·rw[if_neg h];have he:idxJ xs n=xs.length:=by omega
  refine z5w (z0u (fun i (_:Unit)=>[.int (i:Int)]) (idxJ xs n) (fun _=>()) (t:=1) (o:=[]) rfl step ?_) rfl;rw[he];exact z00 (by simp) rfl
theorem zPn {xs:List Dif} {k:Nat}:((xs.map Dif.d).take ((xs.length:Nat):Int).toNat).drop k=(xs.drop k).map Dif.d:=by
 rw[Int.toNat_natCast,List.take_of_length_le (by simp),List.map_drop]
theorem zOb {j:Jrn} (hj:j.In lim) (n:Int):z4W.F [j.d,.int n]=some (frD (zA4 j n).1 (zA4 j n).2):=by
 have hlim:lim=1048576:=rfl
 have hjl:=hj.len
 have f1:(j.d.fld 1).i=j.first:=rfl
 have f2:j.d.fld 2=.lst (j.diffs.map Dif.d):=rfl
 have hll:(D.lst (j.diffs.map Dif.d)).l=j.diffs.map Dif.d:=rfl
 rw[zFE]
 simp only[f1,f2,hll,List.length_map,D.i_int]
 unfold zA4
 by_cases h:n=j.first
 ·rw[if_pos h];exact z0F (by simpa using h) (z04 (zCh hj.len hj.all) rfl)
 ·rw[if_neg h];refine z05 (by simpa using h) (z04 (zUs hj.len) ?_);by_cases h2:idxJ j.diffs n<j.diffs.length
  ·rw[if_pos h2,if_pos h2];have hw:IntKind.wrap .i64 ((idxJ j.diffs n:Int)+1)=((idxJ j.diffs n+1:Nat):Int):=z0B h2 (Nat.le_trans hj.len z0R);simp only[D.i_int,hw];refine z05 (fun h=>by have:=of_decide_eq_true h; omega) (z0F (by simp[slOk]; omega) ?_);rw[Int.toNat_natCast (idxJ j.diffs n+1),zPn];exact z04 (zCh (by simp; omega) (fun x hx=>hj.all x (List.mem_of_mem_drop hx))) rfl
  ·rw[if_neg h2,if_neg h2];exact z0F rfl rfl
theorem zOS {j:Jrn} (hj:j.In lim) (n:Int):z3X.F [j.d,.int n]=some (if (z8h j.apex&&j.body)=true then frD (zA4 j n).1 (zA4 j n).2 else frD [] false):=by
 have hlim:lim=1048576:=rfl
 have hjl:=hj.len
 have hsm:=Nat.le_trans hj.len z0R
 have f1:(j.d.fld 1).i=j.first:=rfl
 have f2:j.d.fld 2=.lst (j.diffs.map Dif.d):=rfl
 have hll:(D.lst (j.diffs.map Dif.d)).l=j.diffs.map Dif.d:=rfl
 have hG:=z8F hj
 rw[zFd]
 simp only[f1,f2,hll,List.length_map,D.i_int]
 cases k:(z8h j.apex&&j.body)with
 | false=>rw[k]at hG; exact z04 hG (z0F rfl rfl)
 | true=>
   rw[k]at hG;rw[if_pos rfl];refine z04 hG (z05 (by simp) ?_);unfold zA4;by_cases h:n=j.first
   ·rw[if_pos h];exact z0F (by simpa using h) (z04 (zGG hj.len hj.all) rfl)
   ·rw[if_neg h];refine z05 (by simpa using h) ?_;have hle:=zSF j.diffs n;have g1:∀x:Dif,(x.d.fld 1).i=x.to':=fun _=>rfl;have step:∀i,i<idxJ j.diffs n->(fun l3=>
     if (decide ((gd l3 0).i<((j.diffs.length:Nat):Int)))then
      if (inb (gd l3 0).i j.diffs.length)then
      if (((gd (j.diffs.map Dif.d) (gd l3 0).i.toNat).fld 1).i==n)then
       if (slOk (IntKind.wrap .i64 ((gd l3 0).i+1)) ((j.diffs.length:Nat):Int) ((j.diffs.length:Nat):Int))then
       (z2W.F [(D.lst (((j.diffs.map Dif.d).take ((j.diffs.length:Nat):Int).toNat).drop (IntKind.wrap .i64 ((gd l3 0).i+1)).toNat))]).bind fun r4=>
       ou 1 [r4,(.bool true)]
       else none
      else
       ou 0 [(.int (IntKind.wrap .i64 ((gd l3 0).i+1)))]
      else none
     else
      ou 2 []:List D->Outc) [.int (i:Int)]=some (0,[.int ((i+1:Nat):Int)]):=by
     intro i hi;have hi':i<j.diffs.length:=by omega
     have hg:gd (j.diffs.map Dif.d) i=j.diffs[i].d:=z2Q hi';simp only[z0k,D.i_int,Int.toNat_natCast,hg,g1];refine z03 (by simpa using hi') (z03 (z0A hi') (z00 (by rw[zSG hi' hi]; simp) ?_));rw[z0B hi' hsm]
    by_cases h2:idxJ j.diffs n<j.diffs.length
    ·rw[if_pos h2];refine z06 (z0u (fun i (_:Unit)=>[.int (i:Int)]) (idxJ j.diffs n) (fun _=>()) (t:=0) (o:=[.lst ((j.diffs.drop (idxJ j.diffs n+1)).map Dif.d),.bool true]) rfl step ?_) rfl;have hg:gd (j.diffs.map Dif.d) (idxJ j.diffs n)=j.diffs[idxJ j.diffs n].d:=z2Q h2;have hw:IntKind.wrap .i64 ((idxJ j.diffs n:Int)+1)=((idxJ j.diffs n+1:Nat):Int):=z0B h2 hsm;simp only[z0k,D.i_int,hw];rw[Int.toNat_natCast (idxJ j.diffs n),hg,g1,Int.toNat_natCast (idxJ j.diffs n+1),zPn];exact z03 (by simpa using h2) (z03 (z0A h2) (z03 (zSE h2) (z03 (by simp[slOk]; omega) (z01 (zGG (by simp; omega) (fun x hx=>hj.all x (List.mem_of_mem_drop hx))) rfl))))
    ·rw[if_neg h2];have he:idxJ j.diffs n=j.diffs.length:=by omega
     refine z5w (z0u (fun i (_:Unit)=>[.int (i:Int)]) (idxJ j.diffs n) (fun _=>()) (t:=1) (o:=[]) rfl step ?_) rfl;rw[he];exact z00 (by simp) rfl
def ApOk (z:Zn) (x:Dif) (t:Zn×Bool):Prop:=t.1.In lim/\z1q.F [z.d,x.d]=some (apD t.1 t.2)/\z1v.F [z.d,x.d]=some (apD t.1 t.2)
open Classical in
noncomputable def apZ (z:Zn) (x:Dif):Zn×Bool:=if h:∃t,ApOk z x t then Classical.choose h else(z,false)
theorem zJp {z:Zn} {x:Dif} (hz:z.In lim) (hx:x.In lim):ApOk z x (apZ z x):=by
 have h:∃t,ApOk z x t:=by
  obtain⟨z',b,h1,h2,h3⟩:=zOR hz hx;exact⟨(z',b),h1,h2,h3⟩
 unfold apZ
 rw[dif_pos h]
 exact Classical.choose_spec h
noncomputable def apG (_:Nat) (z:Zn) (x:Dif):Sum Zn (Nat×List D):=if (apZ z x).2=true then .inl (apZ z x).1 else .inr (0,[nulZ.d,.int 0,.bool false])
theorem zPb:∀(ds:List Dif) (i:Nat) (z:Zn),z.In lim->(∀x∈ds,x.In lim)->(∃z',z7K apG i z ds=.inl z'/\z'.In lim)\/z7K apG i z ds=.inr (0,[nulZ.d,.int 0,.bool false])
 | [],i,z,hz,_=>.inl ⟨z,rfl,hz⟩
 | x::ds,i,z,hz,hd=>by
   have hx:=hd x (List.mem_cons_self ..);have hok:=(zJp hz hx).1;unfold z7K;by_cases h:(apZ z x).2=true
   ·have e:apG i z x=.inl (apZ z x).1:=by unfold apG; rw[if_pos h]
    rw[e];exact zPb ds (i+1) _ hok (fun y hy=>hd y (List.mem_cons_of_mem _ hy))
   ·have e:apG i z x=.inr (0,[nulZ.d,.int 0,.bool false]):=by unfold apG; rw[if_neg h]
    rw[e];exact .inr rfl
theorem zKL {e:List D->Option D} {ds:List Dif} {z:Zn} (hl:ds.length<=lim) (hz:z.In lim) (hd:∀x∈ds,x.In lim) (hc:∀(y:Zn) (x:Dif),y.In lim->x∈ds->e [y.d,x.d]=some (apD (apZ y x).1 (apZ y x).2)) {R:Outc} (hR:∀s,z7K apG 0 z ds=.inl s->R=some (1,[s.d])) (hR':∀o,z7K apG 0 z ds=.inr o->R=some o) :
 z0Y (fun l5=>
  if (decide ((gd l5 1).i<(((ds.map Dif.d).length:Nat):Int)))then
   if (inb (gd l5 1).i (ds.map Dif.d).length)then
   (e [(gd l5 0),(gd (ds.map Dif.d) (gd l5 1).i.toNat)]).bind fun r7=>
   if (!(r7.fld 1).b)then
    ou 1 [(.pair (.str []) (.pair (.int 0) (.pair (D.lst []) .unit))),(.int 0),(.bool false)]
   else
    ou 0 [(r7.fld 0),(.int (IntKind.wrap .i64 ((gd l5 1).i+1)))]
   else none
  else
   ou 2 [(gd l5 0)]) [z.d,.int 0]=R:=by
 rw[List.length_map]
 refine(z6i (fun i (z:Zn)=>[z.d,.int (i:Int)]) ds apG (fun _ z=>z.In lim) z 1 (fun z=>[z.d]) rfl hz ?_ ?_).trans ?_
 ·intro i y hi hy;have hg:gd (ds.map Dif.d) i=ds[i].d:=z2Q hi;have hm:=List.getElem_mem hi;have hok:=(zJp hy (hd _ hm)).1;have hcc:=hc y _ hy hm;have A0:∀(z:Zn) (b:Bool),(apD z b).fld 0=z.d:=fun _ _=>rfl;have A1:∀(z:Zn) (b:Bool),((apD z b).fld 1).b=b:=fun _ _=>rfl;simp only[z0k,z1c,D.i_int,Int.toNat_natCast,hg];unfold apG;by_cases h:(apZ y ds[i]).2=true
  ·rw[if_pos h];refine⟨z03 (by simpa using hi) (z03 (z0A hi) (z01 hcc (z00 (by rw[A1,h]; simp) ?_))),hok⟩;rw[z0B hi (Nat.le_trans hl z0R)]; rfl
  ·rw[if_neg h];refine z03 (by simpa using hi) (z03 (z0A hi) (z01 hcc (z03 (by rw[A1]; simpa using h) rfl)))
 ·intro y hy;simp only[z0k,z1c,D.i_int];exact z00 (by simp) rfl
 ·cases hf:z7K apG 0 z ds with
  | inl s=>exact(hR s hf).symm
  | inr o=>exact(hR' o hf).symm
def cuD (z:Zn) (n:Int) (b:Bool):D:=.pair z.d (.pair (.int n) (.pair (.bool b) .unit))
theorem zRn {z:Zn} {j:Jrn} (hz:z.In lim) (hj:j.In lim):∃(z':Zn) (n:Int) (b:Bool),z'.In lim/\z3m.F [z.d,j.d]=some (cuD z' n b)/\z3p.F [z.d,j.d]=some (cuD z' n b):=by
 have hlim:lim=1048576:=rfl
 have z0:(z.d.fld 0).s=z.apex:=rfl
 have z1:z.d.fld 1=.int z.counter:=rfl
 have j0:(j.d.fld 0).s=j.apex:=rfl
 have hGI:=z8D hz
 have hGS:=z5n hz
 have hJI:=zBO hj
 have hDI:=zOb hj z.counter
 have hDS:=zOS hj z.counter
 have R0:∀(ds:List Dif) (b:Bool),((frD ds b).fld 0).l=ds.map Dif.d:=fun _ _=>rfl
 have R1:∀(ds:List Dif) (b:Bool),((frD ds b).fld 1).b=b:=fun _ _=>rfl
 rw[zJO,zJh]
 simp only[z0,z1,j0]
 have nulS:∀r:D,z3X.F [j.d,.int z.counter]=some r->(z.good=false\/(r.fld 1).b=false\/(z.apex==j.apex)=false)->((z11.F [z.d]).bind fun r3=>
  if (!r3.b)then ou 0 [(.bool true)]else
  if (!(r.fld 1).b)then ou 0 [(.bool true)]else
  ou 0 [(.bool (!(z.apex==j.apex)))]:Outc)=some (0,[.bool true]):=by
  intro r hr h;rw[hGS,Option.bind_some]
  cases k1:z.good with
  | false=>rfl
  | true=>
    rw[k1]at h
    cases k2:(r.fld 1).b with
    | false=>rfl
    | true=>
      rw[k2]at h;have:(z.apex==j.apex)=false:=by simpa using h
      rw[this]; rfl
 cases k1:z.good with
 | false=>
   rw[k1]at hGI;refine⟨nulZ,0,false,z7C,z06 (l:=[.bool true]) (z01 hGI (z03 rfl rfl)) (z0F rfl rfl),?_⟩;exact z04 hDS (z06 (l:=[.bool true]) (nulS _ hDS (.inl k1)) (z0F rfl rfl))
 | true=>
 rw[k1]at hGI hGS
 have hG:=Zn.good_iff.1 k1
 cases k2:(z.apex==j.apex)with
 | false=>
   refine⟨nulZ,0,false,z7C,z06 (l:=[.bool true]) ?_ (z0F rfl rfl),?_⟩
   ·refine z01 hGI (z00 (by simp) (z01 hJI ?_))
    cases (z15 j.apex&&j.body)with
    | false=>exact z03 rfl rfl
    | true=>exact z00 (by simp) rfl
   ·have:=nulS _ hDS (.inr (.inr k2));rw[k2]at this;exact z04 hDS (z06 (l:=[.bool true]) this (z0F rfl rfl))
 | true=>
 have ha:z.apex=j.apex:=by simpa using k2
 have hap:z8h j.apex=true:=by rw[<- ha]; exact hG.apx
 have hna:z15 j.apex=true:=by
  have h:=hap;unfold z8h at h; simp only[Bool.and_eq_true]at h; exact h.1
 rw[hna,Bool.true_and]at hJI
 rw[hap,Bool.true_and]at hDS
 have nulS':=nulS
 rw[k2]at nulS'
 cases k3:j.body with
 | false=>
   rw[k3]at hJI hDS;rw[if_neg (by simp)]at hDS;exact⟨nulZ,0,false,z7C,z06 (l:=[.bool true]) (z01 hGI (z00 (by simp) (z01 hJI (z03 rfl rfl)))) (z0F rfl rfl),z04 hDS (z06 (l:=[.bool true]) (nulS' _ hDS (.inr (.inl rfl))) (z0F rfl rfl))⟩
 | true=>
 rw[k3]at hJI hDS
 rw[if_pos rfl]at hDS
 have preI:((z0z.F [z.d]).bind fun r2=>
  if (!r2.b)then ou 0 [(.bool true)]else
  (z1T.F [j.d]).bind fun r3=>
  if (!r3.b)then ou 0 [(.bool true)]else
  ou 0 [(.bool (!true))]:Outc)=some (0,[.bool false]):=z01 hGI (z00 (by simp) (z01 hJI (z00 (by simp) rfl)))
 cases k4:(zA4 j z.counter).2 with
 | false=>
   rw[k4]at hDI hDS;exact⟨nulZ,0,false,z7C,z06 (l:=[.bool false]) preI (z05 (by simp) (z04 hDI (z0F rfl rfl))),z04 hDS (z06 (l:=[.bool true]) (nulS' _ hDS (.inr (.inl rfl))) (z0F rfl rfl))⟩
 | true=>
   rw[k4]at hDI hDS;have hlen:(zA4 j z.counter).1.length<=lim:=Nat.le_trans zS9 hj.len;have hd:∀x∈(zA4 j z.counter).1,x.In lim:=fun x hx=>hj.all x (zSA x hx);have preS:((z11.F [z.d]).bind fun r3=>
    if (!r3.b)then ou 0 [(.bool true)]else
    if (!((frD (zA4 j z.counter).1 true).fld 1).b)then ou 0 [(.bool true)]else
    ou 0 [(.bool (!true))]:Outc)=some (0,[.bool false]):=z01 hGS (z00 (by simp) (z00 (by rw[R1]; simp) rfl))
   rcases zPb (zA4 j z.counter).1 0 z hz hd with ⟨z',hf,hz'⟩ | hf
   ·have lI:=zKL (e:=z1q.F) (R:=some (1,[z'.d])) hlen hz hd (fun y x hy hx=>(zJp hy (hd x hx)).2.1) (fun s h=>by rw[hf]at h; cases h; rfl) (fun o h=>by rw[hf]at h; cases h);have lS:=zKL (e:=z1v.F) (R:=some (1,[z'.d])) hlen hz hd (fun y x hy hx=>(zJp hy (hd x hx)).2.2) (fun s h=>by rw[hf]at h; cases h; rfl) (fun o h=>by rw[hf]at h; cases h);refine⟨z',((zA4 j z.counter).1.length:Int),true,hz',z06 (l:=[.bool false]) preI (z05 (by simp) (z04 hDI (z05 (by rw[R1]; simp) (z04 (z7V hz.len) (z5w lI (zB9 ?_)))))),z04 hDS (z06 (l:=[.bool false]) preS (z05 (by simp) (z04 (zAW hz.len) (z5w lS (zB9 ?_)))))⟩
    ·rw[R0,List.length_map]; rfl
    ·rw[R0,List.length_map]; rfl
   ·have lI:=zKL (e:=z1q.F) (R:=some (0,[nulZ.d,.int 0,.bool false])) hlen hz hd (fun y x hy hx=>(zJp hy (hd x hx)).2.1) (fun s h=>by rw[hf]at h; cases h) (fun o h=>by rw[hf]at h; cases h; rfl);have lS:=zKL (e:=z1v.F) (R:=some (0,[nulZ.d,.int 0,.bool false])) hlen hz hd (fun y x hy hx=>(zJp hy (hd x hx)).2.2) (fun s h=>by rw[hf]at h; cases h) (fun o h=>by rw[hf]at h; cases h; rfl);exact⟨nulZ,0,false,z7C,z06 (l:=[.bool false]) preI (z05 (by simp) (z04 hDI (z05 (by rw[R1]; simp) (z04 (z7V hz.len) (z06 lI rfl))))),z04 hDS (z06 (l:=[.bool false]) preS (z05 (by simp) (z04 (zAW hz.len) (z06 lS rfl))))⟩
end Go.Proofs.YtcnjllnhfoiojaaGreatDoor
namespace Go.Proofs.YtcnjllnhfoiojaaGreatDoor
open Go Go.Own
def CuOk (z:Zn) (j:Jrn) (t:Zn×Int×Bool):Prop:=t.1.In lim/\z3m.F [z.d,j.d]=some (cuD t.1 t.2.1 t.2.2)/\z3p.F [z.d,j.d]=some (cuD t.1 t.2.1 t.2.2)
open Classical in
noncomputable def cuZ (z:Zn) (j:Jrn):Zn×Int×Bool:=if h:∃t,CuOk z j t then Classical.choose h else(z,0,false)
theorem zRb {z:Zn} {j:Jrn} (hz:z.In lim) (hj:j.In lim):CuOk z j (cuZ z j):=by
 have h:∃t,CuOk z j t:=by
  obtain⟨z',n,b,h1,h2,h3⟩:=zRn hz hj;exact⟨(z',n,b),h1,h2,h3⟩
 unfold cuZ
 rw[dif_pos h]
 exact Classical.choose_spec h
noncomputable def setE (f:Flt) (e:Edg):Edg:=⟨if (cuZ e.zone f.jrn).2.2=true then(cuZ e.zone f.jrn).1 else f.ctl.zone,e.saved⟩
noncomputable def setN (f:Flt) (e:Edg):Int:=if (cuZ e.zone f.jrn).2.2=true then(cuZ e.zone f.jrn).2.1 else 1
noncomputable def setC (f:Flt):Nat->Int
 | 0=>0
 | i+1=>IntKind.wrap .i64 (setC f i+setN f (f.edges.getD i Edg.nul))
noncomputable def Flt.set (f:Flt):Flt:=⟨f.ctl,f.jrn,f.edges.map (setE f),[]⟩
theorem zVE {f:Flt} (hf:f.In lim) {e:Edg} (he:e.In lim):(setE f e).In lim:=by
 refine⟨?_,he.saved⟩
 show(if (cuZ e.zone f.jrn).2.2=true then(cuZ e.zone f.jrn).1 else f.ctl.zone).In lim
 split
 ·exact(zRb he.zone hf.jrn).1
 ·exact hf.ctl.zone
theorem Flt.set_in {f:Flt} (hf:f.In lim):f.set.In lim:=by
 refine⟨hf.ctl,hf.jrn,by simpa [Flt.set]using hf.elen,?_,by simp[Flt.set],by simp[Flt.set]⟩
 intro x hx
 obtain⟨e,he,rfl⟩:=List.mem_map.1 hx
 exact zVE hf (hf.eall e he)
def fltE (f:Flt) (es:List D):D:=.pair f.ctl.d (.pair f.jrn.d (.pair (.lst es) (.pair (.lst []) .unit)))
theorem zKG {f:Flt} (hf:f.In lim) {ec eo:List D->Option D} (hc:∀e∈f.edges,ec [e.zone.d,f.jrn.d]=some (cuD (cuZ e.zone f.jrn).1 (cuZ e.zone f.jrn).2.1 (cuZ e.zone f.jrn).2.2)) (ho:eo [f.ctl.zone.d]=some f.ctl.zone.d):z0Y (fun l3=>
 if (decide ((gd l3 2).i<((f.edges.length:Nat):Int)))then
  if (inb (gd l3 2).i ((gd l3 0).fld 2).l.length)then
  (ec [((gd ((gd l3 0).fld 2).l (gd l3 2).i.toNat).fld 0),((gd l3 0).fld 1)]).bind fun r6=>
  (if (!(r6.fld 2).b)then
      (eo [(((gd l3 0).fld 0).fld 0)]).bind fun r7=>
      ou 0 [r7,(.int 1)]
    else
     ou 0 [(r6.fld 0),(r6.fld 1)]).bind fun o7=>
  sel2 o7.1 (ou 0 [((gd l3 0).setFld 2 (D.lst (upd ((gd l3 0).fld 2).l (gd l3 2).i.toNat 0 (gd o7.2 0)))),(.int (IntKind.wrap .i64 ((gd l3 1).i+(gd o7.2 1).i))),(.int (IntKind.wrap .i64 ((gd l3 2).i+1)))]) fun _=>none
  else none
 else
  ou 1 [(gd l3 0),(gd l3 1)]) [fltE f (f.edges.map Edg.d),(.int 0),(.int 0)]=some (0,[f.set.d,.int (setC f f.edges.length)]):=by
 have hle:=hf.elen
 have hsm:=Nat.le_trans hle z0R
 let ys:Nat->D:=fun i=>(setE f (f.edges.getD i Edg.nul)).d
 have hml:(f.edges.map Edg.d).length=f.edges.length:=by simp
 refine z0u (fun i (s:List D)=>[fltE f s,.int (setC f i),.int (i:Int)]) f.edges.length (over ys (f.edges.map Edg.d)) (by rw[zC7]; rfl) ?_ ?_
 ·intro i hi;have hi':i<(f.edges.map Edg.d).length:=by rw[hml]; exact hi
  have hol:(over ys (f.edges.map Edg.d) i).length=f.edges.length:=by rw[z7b (Nat.le_of_lt hi'),hml]
  have hol':i<(over ys (f.edges.map Edg.d) i).length:=by rw[hol]; exact hi
  have hg:gd (over ys (f.edges.map Edg.d) i) i=f.edges[i].d:=(zLT hi').trans (z2Q hi);have e0:∀x y z:D,gd [x,y,z] 0=x:=fun _ _ _=>rfl;have e1:∀x y z:D,gd [x,y,z] 1=y:=fun _ _ _=>rfl;have e2:∀x y z:D,gd [x,y,z] 2=z:=fun _ _ _=>rfl;have F2:∀s:List D,((fltE f s).fld 2).l=s:=fun _=>rfl;have F1:∀s:List D,(fltE f s).fld 1=f.jrn.d:=fun _=>rfl;have F0:∀s:List D,((fltE f s).fld 0).fld 0=f.ctl.zone.d:=fun _=>rfl;have E0:f.edges[i].d.fld 0=f.edges[i].zone.d:=rfl;have hm:=List.getElem_mem hi;have hget:f.edges.getD i Edg.nul=f.edges[i]:=z0H hi _;simp only[e0,e1,e2,F2,F1,F0,D.i_int,Int.toNat_natCast,hg,E0];refine z03 (by simpa using hi) (z03 (by rw[hol]; exact z0A hi) (z01 (hc _ hm) ?_));have C0:∀(z:Zn) (n:Int) (b:Bool),(cuD z n b).fld 0=z.d:=fun _ _ _=>rfl;have C1:∀(z:Zn) (n:Int) (b:Bool),(cuD z n b).fld 1=.int n:=fun _ _ _=>rfl;have C2:∀(z:Zn) (n:Int) (b:Bool),((cuD z n b).fld 2).b=b:=fun _ _ _=>rfl;simp only[C0,C1,C2];refine z9d (l:=[(setE f f.edges[i]).zone.d,.int (setN f f.edges[i])]) ?_ ?_
  ·unfold setE setN;by_cases h:(cuZ f.edges[i].zone f.jrn).2.2=true
   ·rw[if_pos h,if_pos h];exact z00 (by rw[h]; simp) rfl
   ·rw[if_neg h,if_neg h];exact z03 (by simpa using h) (z01 ho rfl)
  ·have hs:upd (over ys (f.edges.map Edg.d) i) i 0 (setE f f.edges[i]).zone.d=over ys (f.edges.map Edg.d) (i+1):=by
    unfold upd;rw[hg];exact zC6 hi' (by show _=(setE f (f.edges.getD i Edg.nul)).d; rw[hget]; rfl)
   have hcn:IntKind.wrap .i64 (setC f i+setN f f.edges[i])=setC f (i+1):=by
    show _=IntKind.wrap .i64 (setC f i+setN f (f.edges.getD i Edg.nul));rw[hget]
   have G0:∀x y:D,gd [x,y] 0=x:=fun _ _=>rfl;have G1:∀x y:D,gd [x,y] 1=y:=fun _ _=>rfl;simp only[G0,G1,D.i_int,hs,hcn];rw[z0B hi hsm]; rfl
 ·have e0:∀x y z:D,gd [x,y,z] 0=x:=fun _ _ _=>rfl;have e1:∀x y z:D,gd [x,y,z] 1=y:=fun _ _ _=>rfl;have e2:∀x y z:D,gd [x,y,z] 2=z:=fun _ _ _=>rfl;simp only[e0,e1,e2,D.i_int];refine z00 (by simp) ?_;have:over ys (f.edges.map Edg.d) f.edges.length=(f.edges.map (setE f)).map Edg.d:=by
   have h:=zFy (ys:=ys) (xs:=f.edges.map Edg.d);rw[hml]at h;rw[h];apply List.ext_getElem
   ·simp
   ·intro i h1 h2;simp only[List.length_map,List.length_range]at h1;simp only[List.getElem_map,List.getElem_range];show(setE f (f.edges.getD i Edg.nul)).d=_;rw[z0H h1 _]
  rw[this]; rfl
def stD (f:Flt) (n:Int) (b:Bool):D:=.pair f.d (.pair (.int n) (.pair (.bool b) .unit))
def nulF:Flt:=⟨⟨nulZ,[],0⟩,⟨[],0,[]⟩,[],[]⟩
theorem zV3:nulF.In lim:=⟨⟨z7C,by simp[nulF]⟩,⟨by simp[nulF],by simp[nulF],by simp[nulF]⟩,by simp[nulF],by simp[nulF],by simp[nulF],by simp[nulF]⟩
theorem zKV {f:Flt} (hf:f.In lim):∃(f':Flt) (n:Int) (b:Bool),f'.In lim/\f'.parcels=[]/\z2u.F [f.d]=some (stD f' n b)/\z3j.F [f.d]=some (stD f' n b):=by
 have hI:=zOT hf
 have hS:=zGH hf
 have e2:(f.d.fld 2).l=f.edges.map Edg.d:=rfl
 have e3:f.d.setFld 3 (D.lst [])=fltE f (f.edges.map Edg.d):=rfl
 rw[zCE,zCQ]
 cases k:f.good with
 | false=>
   rw[k]at hI hS;exact⟨nulF,0,false,zV3,rfl,z04 hI (z0F rfl rfl),z04 hS (z0F rfl rfl)⟩
 | true=>
   rw[k]at hI hS;have lI:=zKG hf (ec:=z3m.F) (eo:=z12.F) (fun e he=>(zRb (hf.eall e he).zone hf.jrn).2.1) (z7V hf.ctl.zone.len);have lS:=zKG hf (ec:=z3p.F) (eo:=z1N.F) (fun e he=>(zRb (hf.eall e he).zone hf.jrn).2.2) (zAW hf.ctl.zone.len);refine⟨f.set,setC f f.edges.length,true,Flt.set_in hf,rfl,z04 hI (z05 (by simp) (z04 (zJv hf) (z04 (r:=.pair (.int (setC f f.edges.length)) (.pair f.set.d .unit)) ?_ (z04 (zJv (Flt.set_in hf)) rfl)))),z04 hS (z05 (by simp) (z04 (zTl hf) ?_))⟩
   ·rw[zB4,e3];simp only[e2,List.length_map];exact z06 lI rfl
   ·rw[e3];simp only[e2,List.length_map];exact z06 lS rfl
end Go.Proofs.YtcnjllnhfoiojaaGreatDoor
