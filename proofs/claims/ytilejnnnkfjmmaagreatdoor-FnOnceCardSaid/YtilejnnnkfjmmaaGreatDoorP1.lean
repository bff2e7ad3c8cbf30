/- What the functions compute, in plain words. -/
import Derived.Test.YtilejnnnkfjmmaaGreatDoorCq
set_option linter.unusedSectionVars false
set_option linter.unusedVariables false
set_option linter.unusedSimpArgs false
namespace Go.Own
variable [Glb]
open Go Go.Lib
def splB (b:UInt8):List UInt8->List (List UInt8)
 | []=>[[]]
 | c::s=>if c=b then []::splB b s else match splB b s with
   | p::ps=>(c::p)::ps
   | []=>[[c]]
theorem z6w (b:UInt8):∀s,splB b s≠[]
 | []=>by simp[splB]
 | c::s=>by
   unfold splB;split
   ·simp
   ·split <;> simp
theorem z3n {b:UInt8}:∀{s:List UInt8},b∉s->splB b s=[s]
 | [],_=>rfl
 | c::s,h=>by
   simp only[List.mem_cons,not_or]at h;unfold splB;rw[if_neg (Ne.symm h.1),z3n h.2]
theorem z56 {b:UInt8}:∀{p q:List UInt8},b∉p->splB b (p++b::q)=p::splB b q
 | [],q,_=>by simp[splB]
 | c::p,q,h=>by
   simp only[List.mem_cons,not_or]at h;rw[List.cons_append,splB,if_neg (Ne.symm h.1),z56 h.2]
theorem zAz {b:UInt8}:∀{s:List UInt8},b∈s->∃p q,s=p++b::q/\b∉p
 | c::s,h=>by
   by_cases hc:c=b
   ·exact⟨[],s,by simp[hc],by simp⟩
   ·simp only[List.mem_cons]at h;obtain⟨p,q,h1,h2⟩:=zAz (h.resolve_left (Ne.symm hc));exact⟨c::p,q,by simp[h1],by simp[Ne.symm hc,h2]⟩
theorem z7z {b:UInt8}:∀{s:List UInt8},b∉s->Lib.index s [b]=-1
 | [],_=>rfl
 | c::s,h=>by
   simp only[List.mem_cons,not_or]at h;have hp:([b]:List UInt8).isPrefixOf (c::s)=false:=by simp[List.isPrefixOf,h.1]
   rw[Lib.index,hp,z7z h.2]; rfl
theorem z60 {b:UInt8}:∀{p q:List UInt8},b∉p->Lib.index (p++b::q) [b]=(p.length:Int)
 | [],q,_=>by
   have hp:([b]:List UInt8).isPrefixOf (b::q)=true:=by simp[List.isPrefixOf]
   rw[List.nil_append,Lib.index,hp]; rfl
 | c::p,q,h=>by
   simp only[List.mem_cons,not_or]at h;have hp:([b]:List UInt8).isPrefixOf (c::(p++b::q))=false:=by simp[List.isPrefixOf,h.1]
   rw[List.cons_append,Lib.index,hp,z60 h.2];have:((p.length:Int) == -1)=false:=by rw[beq_eq_false_iff_ne]; omega
   simp[this]
theorem zIb (b:UInt8):∀(k:Nat) (s:List UInt8),s.count b=k->Lib.splitK [b] 0 k s=splB b s
 | 0,s,h=>by
   rw[z3n (List.count_eq_zero.1 h)]; rfl
 | k+1,s,h=>by
   have hm:b∈s:=List.count_pos_iff.1 (by omega);obtain⟨p,q,rfl,hp⟩:=zAz hm;have hc:q.count b=k:=by
    rw[List.count_append,List.count_eq_zero.2 hp,List.count_cons_self]at h;omega
   unfold Lib.splitK;rw[z60 hp,z56 hp];have:((p.length:Int) == -1)=false:=by rw[beq_eq_false_iff_ne]; omega
   rw[this];simp only[Bool.false_eq_true,if_false,Int.toNat_natCast,Nat.add_zero,List.take_left',List.length_cons,List.length_nil];rw[show p.length+(0+1)=p.length+1 from rfl,List.drop_append,List.drop_eq_nil_of_le (by omega)];simp[zIb b k q hc]
theorem zIc (s:List UInt8) (b:UInt8):zH5 s [b]=splB b s:=by
 unfold zH5
 rw[Lib.splitB_data]
 simp only[z3l]
 show Lib.splitK [b] 0 (Lib.count (mkS s).data.toList (mkS [b]).data.toList) s=_
 rw[z3l,z3l,Lib.count_one]
 exact zIb b _ s rfl
theorem z6Y (b:UInt8):∀s,(splB b s).length<=s.length+1
 | []=>by simp[splB]
 | c::s=>by
   have ih:=z6Y b s;unfold splB;split
   ·simp; omega
   ·split
    ·rename_i h; rw[h]at ih; simp at ih |-; omega
    ·simp
theorem z6F (b:UInt8):∀s,∀p∈splB b s,p.length<=s.length
 | [],p,h=>by simp[splB]at h; simp[h]
 | c::s,p,h=>by
   have ih:=z6F b s;unfold splB at h;split at h
   ·simp only[List.mem_cons]at h;rcases h with rfl | h
    ·simp
    ·have:=ih p h; simp; omega
   ·split at h
    ·rename_i q qs hq;simp only[List.mem_cons]at h;rcases h with rfl | h
     ·have:=ih q (by simp[hq]); simp; omega
     ·have:=ih p (by simp[hq,h]); simp; omega
    ·simp at h; simp[h]
def z8d:List UInt8:=[97,98,99,100,101,102,103,104,105,106,107,108,109,110,111,112,113,114,115,116,117,118,119,120,121,122,48,49,50,51,52,53,54,55,56,57,45,95]
def z7g (c:UInt8):Bool:=(decide (97<=c.toNat)&&decide (c.toNat<=122))||((decide (48<=c.toNat)&&decide (c.toNat<=57))||(decide (c.toNat=45)||decide (c.toNat=95)))
theorem zOW (c:UInt8):z8d.contains c=z7g c:=by
 have h:∀n:Fin 256,z8d.contains (UInt8.ofNat n)=z7g (UInt8.ofNat n):=by decide +kernel
 have:=h ⟨c.toNat,c.toNat_lt⟩
 simpa using this
theorem zQn (l cs:List UInt8):Lib.trimS l cs=[]↔∀c∈l,cs.contains c=true:=by
 have h1:∀l:List UInt8,l.dropWhile (cs.contains ·)=[]↔∀c∈l,cs.contains c=true:=by
  intro l
  induction l with
  | nil=>simp
  | cons a l ih=>
    by_cases ha:cs.contains a=true
    ·rw[List.dropWhile_cons_of_pos ha,ih]; simp[ha];intro _; simpa using ha
    ·rw[List.dropWhile_cons_of_neg ha];simp only[reduceCtorEq,false_iff];intro h; exact ha (h a (by simp))
 unfold Lib.trimS Lib.trimLeftS
 rw[h1]
 unfold Lib.trimRightS
 constructor
 ·intro h;by_cases he:l.reverse.dropWhile (cs.contains ·)=[]
  ·rw[h1]at he;intro c hc; exact he c (by simpa using hc)
  ·exfalso;have:=List.head_dropWhile_not (cs.contains ·) (l:=l.reverse) he;rw[h _ (by simp[List.head_mem])]at this
   cases this
 ·intro h c hc;refine h c ?_;have:=(List.dropWhile_sublist (cs.contains ·) (l:=l.reverse)).mem (List.mem_reverse.1 hc);simpa using this
def z6H (s:List UInt8):Bool:=s==[42]||((decide (1<=s.length)&&decide (s.length<=20))&&s.all z7g)
def z11 (s:List UInt8):Bool:=decide (s.length<=60)&&(s.isEmpty||(decide ((splB 46 s).length<=8)&&(splB 46 s).all z6H))
end Go.Own
namespace Go.Proofs.YtilejnnnkfjmmaaGreatDoor
open Go Go.Own
theorem zMb (s:List UInt8) (h:s.length<4294967281):z1A.F [.str s,.str [46]]=some (.lst ((splB 46 s).map .str)):=by
 rw[show z1A.F=zH4 from by unfold z1A zIa; rfl]
 unfold zH4
 refine(if_pos ⟨h,by decide⟩).trans ?_
 simp[zIc]
theorem zT8 (s:List UInt8):z4i.F [.str s,.str z8d]=some (.str (Lib.trimS s z8d)):=by
 rw[show z4i.F=zQm from by unfold z4i zQl; rfl]
 unfold zQm
 exact if_pos ⟨by decide,by decide⟩
theorem zF2 (a b c:Int):z0j.F [.int a,.int b,.int c]=some (.bool (decide (b<=a)&&decide (a<=c))):=by
 rw[zJk]
 by_cases h:b<=a <;> simp[h]
 rfl
theorem zBX (a b c:Int):z0i.F [.int a,.int b,.int c]=some (.bool (decide (b<=a)&&decide (a<=c))):=by
 rw[zMv]
 by_cases h:b<=a <;> simp[h]
 rfl
theorem zPZ (s:List UInt8):z5F.F [.str s]=some (.bool (z6H s)):=by
 rw[zHt]
 by_cases h0:s=[42]
 ·subst h0; simp[z6H]
 ·have h0':(s==[42])=false:=by simpa using h0
  have hw:=zF2 (s.length:Int) 1 20;have ht:=zT8 s;unfold z8d at ht;by_cases h1:1<=s.length/\s.length<=20
  ·have e1:(decide ((1:Int)<=s.length)&&decide ((s.length:Int)<=20))=true:=by simp; omega
   rw[e1]at hw;have key:(Lib.trimS s z8d==[])=s.all z7g:=by
    rw[Bool.eq_iff_iff,beq_iff_eq,zQn,List.all_eq_true];simp only[zOW]
   have key2:=key;unfold z8d at key2;simp only[D.s_str,h0',Bool.false_eq_true,if_false,hw,Option.bind_some,D.b_bool,if_true,ht];simp[z6H,h0',key2,h1.1,h1.2]
  ·have e1:(decide ((1:Int)<=s.length)&&decide ((s.length:Int)<=20))=false:=by
    cases h:(decide ((1:Int)<=s.length)&&decide ((s.length:Int)<=20))with
    | false=>rfl
    | true=>simp at h; omega
   rw[e1]at hw;have e2:(decide (1<=s.length)&&decide (s.length<=20))=false:=by
    cases h:(decide (1<=s.length)&&decide (s.length<=20))with
    | false=>rfl
    | true=>simp at h; omega
   simp only[D.s_str,h0',Bool.false_eq_true,if_false,hw,Option.bind_some,D.b_bool];simp[z6H,h0',e2]
theorem zIu (ls:List (List UInt8)) (u:D) (hl:ls.length<=smax):z0W.F [.lst (ls.map .str),u]=some (.bool !(ls.all z6H)):=by
 have h1:∀s:List UInt8,z3G.F [.str s]=some (.bool !(z6H s)):=fun s=>by
  rw[zDF,zPZ]; rfl
 rw[z3L]
 have key:∃r:Int,z0Y.F [.lst (ls.map .str),u]=some (.int r)/\decide (r >= 0) = !(ls.all z6H):=by
  rw[z3c];have hle:(ls.map D.str).length=ls.length:=by simp
  have:=zJ2 (c:=fun o2=>sel2 o2.1 (ou 0 [(gd o2.2 0)]) fun n2=>sel2 n2 (ou 0 [(.int (-1))]) fun _=>none) (Q:=fun d=>∃r:Int,d=.int r/\decide (r >= 0) = !(ls.all z6H))
   (f:=fun l2=>
   if (decide ((gd l2 0).i<(((D.lst (ls.map .str)).l).length:Int)))then
    if (inb (gd l2 0).i ((D.lst (ls.map .str)).l).length)then
    (z3G.F [(gd ((D.lst (ls.map .str)).l) (gd l2 0).i.toNat)]).bind fun r3=>
    if r3.b then
     ou 1 [(gd l2 0)]
    else
     ou 0 [(.int (IntKind.wrap .i64 ((gd l2 0).i+1)))]
    else none
   else
    ou 2 []) (l:=[.int 0]) (fun i=>[.int i]) ls.length (fun i=>z6H (ls.getD i [])) (t1:=0) (t2:=1) (o1:=fun i=>[.int i]) (o2:=[]) rfl ?_ ?_ ?_ ?_ ?_
  ·obtain⟨d,h1,r,rfl,h2⟩:=this;exact⟨r,h1,h2⟩
  ·intro i hi hp;have hg:gd (ls.map D.str) i=.str (ls.getD i []):=by rw[z9E (by simpa using hi)]; simp[hi]
   simp[hi,z0B hi,z0P hi hl,hg,h1]at *;simp[hp]
  ·intro i hi hp;have hg:gd (ls.map D.str) i=.str (ls.getD i []):=by rw[z9E (by simpa using hi)]; simp[hi]
   simp[hi,z0B hi,z0P hi hl,hg,h1]at *;simp[hp]
  ·simp
  ·intro hall;refine⟨.int (-1),rfl,-1,rfl,?_⟩;have:ls.all z6H=true:=by
    rw[List.all_eq_true];intro x hx;obtain⟨i,hi,rfl⟩:=List.getElem_of_mem hx;have:=hall i hi;simpa [hi]using this
   rw[this]; rfl
  ·intro j hj hp _;refine⟨.int j,rfl,j,rfl,?_⟩;have:ls.all z6H=false:=by
    rw[List.all_eq_false];exact⟨ls[j],List.getElem_mem hj,by simpa [hj]using hp⟩
   rw[this]; simp
 obtain⟨r,h2,h3⟩:=key
 refine z03 h2 ?_
 rw[<- h3]; rfl
theorem z89 (s:List UInt8) (h:s.length<4294967281):z1o.F [.str s]=some (.lst ((if s.isEmpty then []else splB 46 s).map .str)):=by
 rw[zGk]
 cases s with
 | nil=>rfl
 | cons c s=>
   have:((c::s)==([]:List UInt8))=false:=rfl;simp only[D.s_str,this,Bool.false_eq_true,if_false];rw[zMb _ h]; rfl
theorem zCT (s:List UInt8):z25.F [.str s]=some (.bool (z11 s)):=by
 rw[zGd]
 by_cases h:s.length<=60
 ·refine z05 (by simp; omega) (z03 (z89 s (by omega)) ?_);have hle:(if s.isEmpty then []else splB 46 s).length<=61:=by
   split
   ·simp
   ·have:=z6Y 46 s; omega
  have hn:z11 s=(decide ((if s.isEmpty then []else splB 46 s).length<=8)&&(if s.isEmpty then []else splB 46 s).all z6H):=by
   cases he:s.isEmpty <;> simp[z11,h,he]
  rw[hn];generalize (if s.isEmpty then []else splB 46 s)=ls at hle |-;by_cases h2:ls.length<=8
  ·refine z0L (z01 (by simp; omega) (z04 (zIu ls _ (by rw[z0c]; omega)) rfl)) ?_;simp[h2]
  ·refine z0L (z00 (by simp; omega) rfl) ?_;simp[h2]
 ·refine z0G (by simp; omega) ?_;simp[z11,h]
end Go.Proofs.YtilejnnnkfjmmaaGreatDoor
namespace Go.Proofs.YtilejnnnkfjmmaaGreatDoor
open Go Go.Own
theorem z5p {s:List UInt8} {i:Nat} (h:i<s.length):byteAt s i=(s[i]).toNat:=by
 unfold byteAt; rw[List.getD_eq_getElem?_getD,List.getElem?_eq_getElem h]; rfl
structure Cut (b:UInt8) (s:List UInt8) (i:Nat) (out:List (List UInt8)) (from':Nat):Prop where
 le:from'<=i
 no:b∉(s.take i).drop from'
 eq:out++splB b (s.drop from')=splB b s
 len:out.length<=i
theorem Cut.zero (b:UInt8) (s:List UInt8):Cut b s 0 [] 0:=⟨Nat.le_refl _,by simp,by simp,by simp⟩
theorem Cut.miss {b:UInt8} {s:List UInt8} {i fr:Nat} {out:List (List UInt8)} (h:Cut b s i out fr) (hi:i<s.length) (hb:s[i]≠b):Cut b s (i+1) out fr:=by
 refine⟨by have:=h.le; omega,?_,h.eq,by have:=h.len; omega⟩
 rw[List.take_succ_eq_append_getElem hi,List.drop_append_of_le_length (by simp; have:=h.le; omega)]
 simp only[List.mem_append,not_or]
 exact⟨h.no,by simpa using Ne.symm hb⟩
theorem Cut.hit {b:UInt8} {s:List UInt8} {i fr:Nat} {out:List (List UInt8)} (h:Cut b s i out fr) (hi:i<s.length) (hb:s[i]=b):Cut b s (i+1) (out++[(s.take i).drop fr]) (i+1):=by
 refine⟨Nat.le_refl _,?_,?_,by have:=h.len; simp; omega⟩
 ·rw[List.drop_eq_nil_of_le (by simp; omega)]; simp
 ·rw[<- h.eq];have e:s.drop fr=(s.take i).drop fr++b::s.drop (i+1):=by
   conv=>lhs; rw[<- List.take_append_drop i s]
   rw[List.drop_append_of_le_length (by simp; have:=h.le; omega),List.drop_eq_getElem_cons hi,hb]
  rw[e,z56 h.no,List.append_assoc]; rfl
theorem z6c (s:List UInt8) (b:UInt8) (hl:s.length<=lim):z1N.F [.str s,.int b.toNat]=some (.lst ((splB b s).map .str)):=by
 have hlim:lim=1048576:=rfl
 have hsm:=z0c
 rw[zI1]
 have happ:∀(l:List (List UInt8)) (x:D),l.length<=lim->appOk 16 (l.map D.str) [x]=true:=by
  intro l x h;simp[appOk,z0c]; omega
 have key:∃(out:List (List UInt8)) (fr:Nat),Cut b s s.length out fr/\∀k:Nat×List D->Outc,rn ((z0d (fun l2=>
  if (decide ((gd l2 2).i<((D.str s).s.length:Int)))then
   (if (inb (gd l2 2).i (D.str s).s.length)then
     if ((byteAt (D.str s).s (gd l2 2).i.toNat:Int)==(D.int b.toNat).i)then
      if (slOk (gd l2 1).i (gd l2 2).i ((D.str s).s.length:Int))then
      if (appOk 16 (gd l2 0).l ((.str (((D.str s).s.take (gd l2 2).i.toNat).drop (gd l2 1).i.toNat))::([]:List D)))then
      ou 0 [(D.lst ((gd l2 0).l++((.str (((D.str s).s.take (gd l2 2).i.toNat).drop (gd l2 1).i.toNat))::([]:List D)))),(.int (IntKind.wrap .i64 ((gd l2 2).i+1)))]
      else none
      else none
     else
      ou 0 [(gd l2 0),(gd l2 1)]
     else none).bind fun o5=>
   sel2 o5.1 (ou 0 [(gd o5.2 0),(gd o5.2 1),(.int (IntKind.wrap .i64 ((gd l2 2).i+1)))]) fun _=>none
  else
   ou 1 [(gd l2 0),(gd l2 1)]) [(D.lst []),(.int 0),(.int 0)]).bind k)=rn (k (0,[.lst (out.map .str),.int fr])):=by
  have st:∀n,n<=s.length->∃(out:List (List UInt8)) (fr:Nat),Cut b s n out fr/\∀R,z0d (fun l2=>
   if (decide ((gd l2 2).i<((D.str s).s.length:Int)))then
    (if (inb (gd l2 2).i (D.str s).s.length)then
      if ((byteAt (D.str s).s (gd l2 2).i.toNat:Int)==(D.int b.toNat).i)then
       if (slOk (gd l2 1).i (gd l2 2).i ((D.str s).s.length:Int))then
       if (appOk 16 (gd l2 0).l ((.str (((D.str s).s.take (gd l2 2).i.toNat).drop (gd l2 1).i.toNat))::([]:List D)))then
       ou 0 [(D.lst ((gd l2 0).l++((.str (((D.str s).s.take (gd l2 2).i.toNat).drop (gd l2 1).i.toNat))::([]:List D)))),(.int (IntKind.wrap .i64 ((gd l2 2).i+1)))]
       else none
       else none
      else
       ou 0 [(gd l2 0),(gd l2 1)]
      else none).bind fun o5=>
    sel2 o5.1 (ou 0 [(gd o5.2 0),(gd o5.2 1),(.int (IntKind.wrap .i64 ((gd l2 2).i+1)))]) fun _=>none
   else
    ou 1 [(gd l2 0),(gd l2 1)]) [.lst (out.map .str),.int fr,.int n]=R->z0d (fun l2=>
   if (decide ((gd l2 2).i<((D.str s).s.length:Int)))then
    (if (inb (gd l2 2).i (D.str s).s.length)then
      if ((byteAt (D.str s).s (gd l2 2).i.toNat:Int)==(D.int b.toNat).i)then
       if (slOk (gd l2 1).i (gd l2 2).i ((D.str s).s.length:Int))then
       if (appOk 16 (gd l2 0).l ((.str (((D.str s).s.take (gd l2 2).i.toNat).drop (gd l2 1).i.toNat))::([]:List D)))then
       ou 0 [(D.lst ((gd l2 0).l++((.str (((D.str s).s.take (gd l2 2).i.toNat).drop (gd l2 1).i.toNat))::([]:List D)))),(.int (IntKind.wrap .i64 ((gd l2 2).i+1)))]
       else none
       else none
      else
       ou 0 [(gd l2 0),(gd l2 1)]
      else none).bind fun o5=>
    sel2 o5.1 (ou 0 [(gd o5.2 0),(gd o5.2 1),(.int (IntKind.wrap .i64 ((gd l2 2).i+1)))]) fun _=>none
   else
    ou 1 [(gd l2 0),(gd l2 1)]) [(D.lst []),(.int 0),(.int 0)]=R:=by
   intro n
   induction n with
   | zero=>intro _; exact⟨[],0,Cut.zero b s,fun R h=>h⟩
   | succ n ih=>
     intro hn;obtain⟨out,fr,hc,hR⟩:=ih (by omega);have hi:n<s.length:=by omega
     by_cases hb:s[n]=b
     ·refine⟨_,_,hc.hit hi hb,fun R h=>hR R ?_⟩;rw[z1m ?_]
      ·exact h
      ·have hsl:slOk (fr:Int) (n:Int) (s.length:Int)=true:=by
        have:=hc.le;simp[slOk]; omega
       have ha:=happ out (.str ((s.take n).drop fr)) (by have:=hc.len; omega);simp[hi,z0B hi,z0P hi (Nat.le_trans hl z1I),z5p hi,hb,hsl,ha]
     ·refine⟨_,_,hc.miss hi hb,fun R h=>hR R ?_⟩;rw[z1m ?_]
      ·exact h
      ·have hb':¬((s[n].toNat:Int)=(b.toNat:Int)):=fun e=>hb (UInt8.toNat_inj.1 (by omega));simp[hi,z0B hi,z0P hi (Nat.le_trans hl z1I),z5p hi,hb']
  obtain⟨out,fr,hc,hR⟩:=st s.length (Nat.le_refl _);refine⟨out,fr,hc,fun k=>?_⟩;rw[hR _ (z1B (t:=0) (l':=[.lst (out.map .str),.int fr]) ?_)]
  ·rfl
  ·simp
 obtain⟨out,fr,hc,hk⟩:=key
 rw[hk]
 have hsl:slOk (fr:Int) (s.length:Int) (s.length:Int)=true:=by
  have:=hc.le;simp[slOk]; omega
 have ha:=happ out (.str ((s.take s.length).drop fr)) (by have:=hc.len; omega)
 have hno:b∉s.drop fr:=by have:=hc.no; rwa [List.take_of_length_le (Nat.le_refl _)]at this
 have he:=hc.eq
 rw[z3n hno]at he
 simp only[List.take_length]at ha
 simp[hsl,ha,<- he]
theorem zPb (s:List UInt8) (hl:s.length<=smax):z3p.F [.str s]=some (.bool (z6H s)):=by
 rw[zI0]
 by_cases h0:s=[42]
 ·subst h0; simp[z6H]
 ·have h0':(s==[42])=false:=by simpa using h0
  refine z05 (by simpa using h0) ?_;refine z0L (z38 (fun i=>[.int i]) s.length (fun i=>z7g (s.getD i 0)) (t1:=0) (t2:=1) (o1:=[]) (o2:=[]) rfl ?_ ?_) ?_
  ·intro i hi;have hg:s.getD i 0=s[i]:=by simp[hi]
   rw[hg];refine z01 (by simpa using hi) (z01 (by simpa using z0B hi) ?_);have hb:(byteAt (D.str s).s (gd [D.int (i:Int)] 0).i.toNat:Int)=((s[i].toNat:Nat):Int):=by simp[z5p hi]
   rw[hb];generalize s[i]=c;have hw:D.int (IntKind.wrap .i64 ((gd [D.int (i:Int)] 0).i+1))=.int ((i+1:Nat):Int):=by simp[z0P hi hl]
   rw[hw]
   cases hs:z7g c with
   | true=>
     refine z0w (r:=(0,[.bool false])) ?_ (by simp);simp only[z7g,Bool.or_eq_true,Bool.and_eq_true,decide_eq_true_eq]at hs;by_cases c1:(97:Int)<=c.toNat <;> by_cases c2:(c.toNat:Int)<=122 <;> by_cases c3:(48:Int)<=c.toNat <;> by_cases c4:(c.toNat:Int)<=57 <;> by_cases c5:(c.toNat:Int)=45 <;> by_cases c6:(c.toNat:Int)=95 <;> simp[c1,c2,c3,c4,c5,c6] <;> omega
   | false=>
     refine z0w (r:=(0,[.bool true])) ?_ (by simp);simp only[z7g,Bool.or_eq_false_iff,Bool.and_eq_false_iff,decide_eq_false_iff_not]at hs;by_cases c1:(97:Int)<=c.toNat <;> by_cases c2:(c.toNat:Int)<=122 <;> by_cases c3:(48:Int)<=c.toNat <;> by_cases c4:(c.toNat:Int)<=57 <;> by_cases c5:(c.toNat:Int)=45 <;> by_cases c6:(c.toNat:Int)=95 <;> simp[c1,c2,c3,c4,c5,c6] <;> omega
  ·simp
  ·have hall:allN s.length (fun i=>z7g (s.getD i 0))=s.all z7g:=by
    rw[Bool.eq_iff_iff,z1S,List.all_eq_true];constructor
    ·intro h c hc;obtain⟨i,hi,rfl⟩:=List.getElem_of_mem hc;simpa [hi]using h i hi
    ·intro h i hi;simpa [hi]using h _ (List.getElem_mem hi)
   rw[hall]
   cases hs:s.all z7g with
   | false=>simp[z6H,h0',hs]
   | true=>
     refine z03 (zBX _ _ _) ?_;have e1:(decide ((1:Int)<=s.length)&&decide ((s.length:Int)<=20))=(decide (1<=s.length)&&decide (s.length<=20)):=by
      rw[Bool.eq_iff_iff]; simp; omega
     simp[z6H,h0',hs];exact e1
def z1v (s:List UInt8):List (List UInt8):=if s.isEmpty then []else splB 46 s
theorem z5Y (s:List UInt8) (hl:s.length<=lim):∃ls:List (List UInt8),z0t.F [.str s]=some (.pair (.lst (ls.map .str)) (.pair (.bool (z11 s)) .unit))/\ls.length<=s.length+1/\(z11 s=true->ls=z1v s):=by
 have hlim:lim=1048576:=rfl
 rw[zGs]
 by_cases h0:s=[]
 ·subst h0; exact⟨[],rfl,by simp,fun _=>rfl⟩
 ·have hemp:s.isEmpty=false:=by cases s <;> simp_all
  have hpt:z1v s=splB 46 s:=by unfold z1v; rw[hemp]; rfl
  have hsl:=z6Y 46 s;have hmem:=z6F 46 s;have hname:z11 s=((splB 46 s).all z6H&&(decide (s.length<=60)&&decide ((splB 46 s).length<=8))):=by
   simp[z11,hemp]
   cases (splB 46 s).all z6H <;> cases decide (s.length<=60) <;> cases decide ((splB 46 s).length<=8) <;> rfl
  have hsp:=z6c s 46 hl;rw[hname,hpt];generalize splB 46 s=ls at hsl hmem hsp |-;have hlab:∀i,i<ls.length->z3p.F [gd (ls.map D.str) i]=some (.bool (z6H (ls.getD i []))):=by
   intro i hi;rw[z9E (by simpa using hi)];simp only[List.getElem_map];rw[zPb _ (by have:=hmem _ (List.getElem_mem hi); rw[z0c]; omega)];simp[hi]
  have key:=z38 (f:=fun l2=>
   if (decide ((gd l2 0).i<((D.lst (ls.map D.str)).l.length:Int)))then
    if (inb (gd l2 0).i (D.lst (ls.map D.str)).l.length)then
    (z3p.F [(gd (D.lst (ls.map D.str)).l (gd l2 0).i.toNat)]).bind fun r3=>
    if (!r3.b)then
     ou 1 []
    else
     ou 0 [(.int (IntKind.wrap .i64 ((gd l2 0).i+1)))]
    else none
   else
    ou 2 []) (l:=[.int 0]) (fun i=>[.int i]) ls.length (fun i=>z6H (ls.getD i [])) (t1:=0) (t2:=1) (o1:=[]) (o2:=[]) rfl (by
   intro i hi;have:=hlab i hi
   cases hp:z6H (ls.getD i [])with
   | true=>rw[hp]at this; simp[hi,z0B hi,z0P hi (show ls.length<=smax by rw[z0c]; omega),this]
   | false=>rw[hp]at this; simp[hi,z0B hi,this]) (by simp)
  have hall:allN ls.length (fun i=>z6H (ls.getD i []))=ls.all z6H:=by
   rw[Bool.eq_iff_iff,z1S,List.all_eq_true];constructor
   ·intro h c hc;obtain⟨i,hi,rfl⟩:=List.getElem_of_mem hc;simpa [hi]using h i hi
   ·intro h i hi;simpa [hi]using h _ (List.getElem_mem hi)
  rw[hall]at key
  cases hs:ls.all z6H with
  | false=>
    rw[hs]at key;exact⟨[],z05 (by simpa using h0) (z03 hsp (z0L key rfl)),by simp,fun h=>by simp at h⟩
  | true=>
    rw[hs]at key;by_cases h60:s.length<=60
    ·refine⟨ls,z05 (by simpa using h0) (z03 hsp (z0L key (z0L (z01 ?_ rfl) ?_))),hsl,fun _=>rfl⟩
     ·exact decide_eq_true (show(s.length:Int)<=60 by omega)
     have e:decide (((D.lst (ls.map D.str)).l.length:Int)<=8)=decide (ls.length<=8):=by rw[Bool.eq_iff_iff]; simp; omega
     simp only[Bool.true_and,decide_eq_true h60,<- e];rfl
    ·refine⟨ls,z05 (by simpa using h0) (z03 hsp (z0L key (z0L (z00 ?_ rfl) ?_))),hsl,fun _=>rfl⟩
     ·exact fun h=>absurd (of_decide_eq_true h) (show ¬(s.length:Int)<=60 by omega)
     simp only[Bool.true_and,decide_eq_false h60,Bool.false_and];rfl
theorem zOK (s:List UInt8) (hl:s.length<=lim):∃d:D,z0t.F [.str s]=some (.pair d (.pair (.bool (z11 s)) .unit)):=by
 obtain⟨ls,h,_⟩:=z5Y s hl
 exact⟨_,h⟩
theorem zHJ (s:List UInt8) (hl:s.length<=lim):z4s.F [.str s]=some (.bool (z11 s)):=by
 rw[zGp]
 obtain⟨d,h⟩:=zOK s hl
 exact z03 h rfl
end Go.Proofs.YtilejnnnkfjmmaaGreatDoor
namespace Go.Own
variable [Glb]
open Go Go.Lib
def z6g (c:UInt8):Bool:=decide (48<=c.toNat)&&decide (c.toNat<=57)
def dvF (a:Nat) (c:UInt8):Nat:=10*a+(c.toNat-48)
def dv (s:List UInt8):Nat:=s.foldl dvF 0
theorem zMN (s:List UInt8) (c:UInt8):dv (s++[c])=10*dv s+(c.toNat-48):=by simp[dv,List.foldl_append,dvF]
theorem z8g {n:Nat} (h:n<10):(UInt8.ofNat (48+n)).toNat=48+n:=by
 rw[UInt8.toNat_ofNat']; omega
theorem zNV {c:UInt8} (h:z6g c=true):UInt8.ofNat (48+(c.toNat-48))=c:=by
 simp only[z6g,Bool.and_eq_true,decide_eq_true_eq]at h
 rw[<- UInt8.toNat_inj,UInt8.toNat_ofNat']; omega
theorem z4g {u:Nat} (h:¬u<10):decDigits u=decDigits (u / 10)++[UInt8.ofNat (48+u % 10)]:=by
 rw[decDigits,dif_neg h]
theorem z5e:∀u:Nat,dv (decDigits u)=u:=by
 intro u
 induction u using Nat.strongRecOn with
 | _ u ih=>
   by_cases h:u<10
   ·rw[decDigits_one h];simp[dv,dvF]; omega
   ·rw[z4g h,zMN,ih (u / 10) (by omega),z8g (by omega)]; omega
theorem z7x:∀u:Nat,∀c∈decDigits u,z6g c=true:=by
 intro u
 induction u using Nat.strongRecOn with
 | _ u ih=>
   intro c hc;by_cases h:u<10
   ·rw[decDigits_one h]at hc;simp only[List.mem_singleton]at hc;subst hc;simp only[z6g,z8g h,Bool.and_eq_true,decide_eq_true_eq]; omega
   ·rw[z4g h]at hc;simp only[List.mem_append,List.mem_singleton]at hc;rcases hc with hc | rfl
    ·exact ih (u / 10) (by omega) c hc
    ·have h10:u % 10<10:=by omega
     simp only[z6g,z8g h10,Bool.and_eq_true,decide_eq_true_eq]; omega
theorem zDg (u:Nat):decDigits u≠[]:=by
 by_cases h:u<10
 ·rw[decDigits_one h]; simp
 ·rw[z4g h]; simp
theorem zHH:∀u:Nat,1<=u->∃c r,decDigits u=c::r/\c≠48:=by
 intro u
 induction u using Nat.strongRecOn with
 | _ u ih=>
   intro hu;by_cases h:u<10
   ·refine⟨_,[],decDigits_one h,fun he=>?_⟩;have:=congrArg UInt8.toNat he;rw[z8g h]at this;have h48:(48:UInt8).toNat=48:=rfl;omega
   ·obtain⟨c,r,h1,h2⟩:=ih (u / 10) (by omega) (by omega);exact⟨c,r++[UInt8.ofNat (48+u % 10)],by rw[z4g h,h1]; rfl,h2⟩
def z86 (s:List UInt8):Bool:=!s.isEmpty&&(s.all z6g && !((s.head? == some 48)&&decide (1<s.length)))
theorem zBT (u:Nat):z86 (decDigits u)=true:=by
 have h1:=zDg u
 have h2:=z7x u
 have h3:(decDigits u).all z6g=true:=List.all_eq_true.2 h2
 unfold z86
 rw[h3]
 have h4:(decDigits u).isEmpty=false:=by cases h:decDigits u <;> simp_all
 rw[h4]
 by_cases h:u<10
 ·rw[decDigits_one h]; simp
 ·obtain⟨c,r,h5,h6⟩:=zHH u (by omega);rw[h5]; simp[h6]
theorem zNP:∀(n:Nat) (s:List UInt8),s.length=n->z86 s=true->s=decDigits (dv s)
 | 0,s,hl,hc=>by
   have:s=[]:=List.length_eq_zero_iff.1 hl;subst this; cases hc
 | n+1,s,hl,hc=>by
   obtain⟨t,c,rfl⟩:∃t c,s=t++[c]:=⟨s.dropLast,s.getLast (by intro h; subst h; cases hl),(List.dropLast_concat_getLast _).symm⟩;unfold z86 at hc;simp only[Bool.and_eq_true,List.all_eq_true,Bool.not_eq_true']at hc;obtain⟨_,hd,hh⟩:=hc;have hcd:z6g c=true:=hd c (by simp);have hcn:=hcd;simp only[z6g,Bool.and_eq_true,decide_eq_true_eq]at hcn;by_cases ht:t=[]
   ·subst ht;rw[show dv ([]++[c])=c.toNat-48 by simp[dv,dvF],decDigits_one (by omega),zNV hcd]; rfl
   ·have htl:1<=t.length:=by cases t with | nil=>exact absurd rfl ht | cons _ _=>simp
    have hlt:t.length=n:=by simp at hl; omega
    have hhd:(t++[c]).head? = t.head?:=by cases t with | nil=>exact absurd rfl ht | cons _ _=>rfl
    have hgt:decide (1<(t++[c]).length)=true:=by simp; omega
    rw[hhd,hgt,Bool.and_true]at hh;have hct:z86 t=true:=by
     unfold z86;simp only[Bool.and_eq_true,List.all_eq_true,Bool.not_eq_true'];refine⟨by cases t with | nil=>exact absurd rfl ht | cons _ _=>rfl,fun x hx=>hd x (by simp[hx]),by rw[hh]; rfl⟩
    have ih:=zNP n t hlt hct;have hpos:1<=dv t:=by
     rcases Nat.eq_zero_or_pos (dv t)with h0 | h0
     ·exfalso;rw[h0,decDigits_one (by omega)]at ih;rw[ih]at hh;simp at hh
     ·exact h0
    rw[zMN,z4g (by omega)];have e1:(10*dv t+(c.toNat-48)) / 10=dv t:=by omega
    have e2:(10*dv t+(c.toNat-48)) % 10=c.toNat-48:=by omega
    rw[e1,e2,<- ih,zNV hcd]
theorem z7C (s:List UInt8):z86 s=true↔s=decDigits (dv s):=⟨zNP _ s rfl,fun h=>h ▸ zBT _⟩
def z35 (s:List UInt8) (m:Int):Bool:=z86 s&&decide ((dv s:Int)<=m)
theorem zNg:∀(l:List UInt8) (a:Nat),a<=l.foldl dvF a
 | [],a=>Nat.le_refl _
 | c::l,a=>Nat.le_trans (by unfold dvF; omega) (zNg l (dvF a c))
theorem zIS:∀(l:List UInt8) (a:Nat),(∀c∈l,z6g c=true)->l.foldl dvF a<18446744073709551616->parseUint10 a l=.ok (l.foldl dvF a)
 | [],a,_,_=>rfl
 | c::l,a,hd,hlt=>by
   have hc:=hd c (by simp);simp only[z6g,Bool.and_eq_true,decide_eq_true_eq]at hc;have hge:=zNg l (dvF a c);have hlt':l.foldl dvF (dvF a c)<18446744073709551616:=hlt;have e:dvF a c=a*10+(c.toNat-48):=by unfold dvF; omega
   unfold parseUint10;rw[if_pos hc,if_neg (by omega),if_neg (by omega),<- e];exact zIS l _ (fun x hx=>hd x (by simp[hx])) hlt'
theorem zNJ {u:Nat} (h:u<9223372036854775808):atoiAll (decDigits u)=.ok (u:Int):=by
 have hne:=zDg u
 have hd:=z7x u
 have hv:=z5e u
 have hp:parseMag (decDigits u)=.ok u:=by
  unfold parseMag;rw[if_neg hne,zIS _ 0 hd (by show dv (decDigits u)<_; rw[hv]; omega)];show NumEnd.ok (dv (decDigits u))=_;rw[hv]
 cases hs:decDigits u with
 | nil=>exact absurd hs hne
 | cons c r=>
   rw[hs]at hp hd;have hc:=hd c (by simp);simp only[z6g,Bool.and_eq_true,decide_eq_true_eq]at hc;have h43:¬c.toNat=43:=by omega
   have h45:¬c.toNat=45:=by omega
   simp only[atoiAll,h43,h45,or_self,if_false,hp,not_false_eq_true,true_and,false_and];rw[if_neg (by omega)]
theorem zIJ:∀(k u:Nat),u<10 ^ k->1<=k->nDigits u<=k
 | 0,_,_,h=>by omega
 | 1,u,h,_=>by rw[nDigits_small (by simpa using h)]; exact Nat.le_refl _
 | k+2,u,h,_=>by
   rw[nDigits];split
   ·omega
   ·have hp:(10:Nat) ^ (k+2)=10 ^ (k+1)*10:=Nat.pow_succ 10 (k+1);have:=zIJ (k+1) (u / 10) (by omega) (by omega);omega
theorem zCR {k u:Nat} (h:u<10 ^ k) (hk:1<=k):(decDigits u).length<=k:=by rw[decDigits_length]; exact zIJ k u h hk
end Go.Own
namespace Go.Proofs.YtilejnnnkfjmmaaGreatDoor
open Go Go.Own
theorem zI8 {s:List UInt8} (h:s.length<=lim):z1O.F [.str s]=some (z7w s):=by
 rw[show z1O.F=zPA from by unfold z1O zMB; rfl]
 unfold zPA
 have hlim:lim=1048576:=rfl
 exact if_pos (by simp; omega)
theorem z3U {v:Int} (h0:0<=v) (h1:v<10 ^ 18):(Lib.itoa v).length<=18:=by
 obtain⟨n,rfl⟩:=Int.eq_ofNat_of_zero_le h0
 rw[show Lib.itoa ((n:Nat):Int)=Lib.decDigits n by unfold Lib.itoa; rw[if_neg (by omega)]; simp]
 exact zCR (by exact_mod_cast h1) (by omega)
theorem zDj {v:Int} (h0:0<=v) (h1:v<10 ^ 18):z12.F [.int v]=some (.str (Lib.itoa v)):=by
 rw[show z12.F=zPn from by unfold z12 zPm; rfl]
 unfold zPn
 have:=z3U h0 h1
 exact if_pos (by rw[D.i_int,z0c]; omega)
theorem z62 (n:Nat):Lib.itoa (n:Int)=Lib.decDigits n:=by unfold Lib.itoa; rw[if_neg (by omega)]; simp
theorem z78 {s:List UInt8} {m:Int} (h:s.length<=lim) (hm:m<10 ^ 18) :
 ∃v:Int,z26.F [.str s,.int m]=some (.pair (.int v) (.pair (.bool (z35 s m)) .unit))/\(z35 s m=true->v=dv s):=by
 have h18:(10:Int) ^ 18=1000000000000000000:=by decide
 rw[zGl]
 have ha:=zI8 h
 by_cases hn:z35 s m=true
 ·rw[hn];unfold z35 at hn;simp only[Bool.and_eq_true,decide_eq_true_eq]at hn;have hs:=(z7C s).1 hn.1;have hat:Lib.atoiAll s=.ok (dv s:Int):=by
   have:=zNJ (u:=dv s) (by omega);rw[<- hs]at this; exact this
  have hd:z7w s=.pair (.int (dv s)) (.pair (.bool false) .unit):=by unfold z7w; rw[hat]
  rw[hd]at ha;have hw:=zF2 (dv s) 0 m;have hwt:(decide ((0:Int)<=dv s)&&decide ((dv s:Int)<=m))=true:=by simp[hn.2]
  rw[hwt]at hw;have hi:=zDj (v:=dv s) (by omega) (by omega);refine⟨dv s,z03 ha (z0L (r:=(0,[.int (dv s),.bool true])) (z01 rfl (z04 hw (z01 rfl (z04 hi ?_)))) rfl),fun _=>rfl⟩;simp[z62,<- hs]
 ·have hn':z35 s m=false:=by simpa using hn
  rw[hn'];have hcase:∃(v:Int) (e:Bool),z7w s=.pair (.int v) (.pair (.bool e) .unit)/\(e=false->Lib.atoiAll s=.ok v):=by
   unfold z7w
   cases hq:Lib.atoiAll s with
   | ok v=>exact⟨v,false,rfl,fun _=>rfl⟩
   | range=>exact⟨_,true,rfl,fun h=>by cases h⟩
   | _=>exact⟨0,true,rfl,fun h=>by cases h⟩
  obtain⟨v,e,hd,he⟩:=hcase;rw[hd]at ha;refine⟨v,z03 ha (z0L (r:=(0,[.int v,.bool false])) ?_ rfl),fun h=>by cases h⟩
  cases e with
  | true=>exact z00 (by simp) rfl
  | false=>
    refine z01 rfl ?_;have hw:=zF2 v 0 m
    cases hr:(decide ((0:Int)<=v)&&decide (v<=m))with
    | false=>rw[hr]at hw; exact z04 hw (z00 (by simp) rfl)
    | true=>
      rw[hr]at hw;simp only[Bool.and_eq_true,decide_eq_true_eq]at hr;refine z04 hw (z01 rfl (z04 (zDj hr.1 (by omega)) ?_));have:(Lib.itoa v==s)=false:=by
       rw[beq_eq_false_iff_ne];intro hs;obtain⟨n,rfl⟩:=Int.eq_ofNat_of_zero_le hr.1;rw[z62]at hs;have h1:z86 s=true:=by rw[<- hs]; exact zBT n
       have h2:dv s=n:=by rw[<- hs]; exact z5e n
       unfold z35 at hn';rw[h1,h2]at hn';simp at hn';omega
      simp[this]
theorem dv_lt:∀(s:List UInt8) (k:Nat),s.length<=k->(∀c∈s,z6g c=true)->dv s<10 ^ k:=by
 intro s k hl hd
 have key:∀(n:Nat) (s:List UInt8),s.length=n->(∀c∈s,z6g c=true)->dv s<10 ^ n:=by
  intro n
  induction n with
  | zero=>intro s hs _; rw[List.length_eq_zero_iff.1 hs]; decide
  | succ n ih=>
    intro s hs hd;obtain⟨t,c,rfl⟩:∃t c,s=t++[c]:=⟨s.dropLast,s.getLast (by intro h; subst h; cases hs),(List.dropLast_concat_getLast _).symm⟩;have h1:=ih t (by simp at hs; exact hs) (fun x hx=>hd x (by simp[hx]));have hc:=hd c (by simp);simp only[z6g,Bool.and_eq_true,decide_eq_true_eq]at hc;rw[zMN];have hp:(10:Nat) ^ (n+1)=10 ^ n*10:=Nat.pow_succ 10 n;omega
 exact Nat.lt_of_lt_of_le (key _ s rfl hd) (Nat.pow_le_pow_right (by omega) hl)
def z2E (s:List UInt8):Int:=if z86 s=true/\s.length<=10 then dv s else -1
def gInt (_:Nat) (n:Nat) (c:UInt8):Sum Nat (Nat×List D):=if z6g c=true then .inl (dvF n c)else .inr (0,[.int (-1)])
theorem zCU:∀(s:List UInt8) (i n:Nat),z8a gInt i n s=if s.all z6g=true then .inl (s.foldl dvF n)else .inr (0,[.int (-1)])
 | [],_,_=>rfl
 | c::s,i,n=>by
   rw[z8a];by_cases hc:z6g c=true
   ·have hg:gInt i n c=.inl (dvF n c):=if_pos hc;rw[hg];simp only[zCU s (i+1) (dvF n c),List.all_cons,hc,Bool.true_and,List.foldl_cons]
   ·have hg:gInt i n c=.inr (0,[.int (-1)]):=if_neg hc;rw[hg,if_neg (by simp[hc])]
theorem z7K {s:List UInt8} (h:s.length<=lim):z1E.F [.str s]=some (.int (z2E s)):=by
 have hsm:s.length<=smax:=Nat.le_trans h z1I
 rw[zLV]
 have hl:=zBX s.length 1 10
 by_cases hlen:1<=s.length/\s.length<=10
 ·have e1:(decide ((1:Int)<=s.length)&&decide ((s.length:Int)<=10))=true:=by simp; omega
  rw[e1]at hl;obtain⟨c,r,rfl⟩:∃c r,s=c::r:=by cases s with | nil=>simp at hlen | cons c r=>exact⟨c,r,rfl⟩
  have hb0:byteAt (c::r) 0=c.toNat:=z5p (by simp);by_cases hz:c=48/\1<(c::r).length
  ·have hcan:z86 (c::r)=false:=by
    unfold z86; rw[hz.1];have:decide (1<((48:UInt8)::r).length)=true:=by have:=hz.2; simpa using this
    rw[this]; simp
   refine z0L (r:=(0,[.bool true])) (z04 hl (z00 (by simp) (z01 (z0B (i:=0) (by simp)) (z01 ?_ ?_)))) ?_
   ·rw[D.s_str,hb0,hz.1]; rfl
   ·have:=hz.2;simp only[List.length_cons]at this;simp; omega
   ·simp[z2E,hcan]
  ·refine z0L (r:=(0,[.bool false])) (z04 hl (z00 (by simp) (z01 (z0B (i:=0) (by simp)) ?_))) ?_
   ·rw[D.s_str,hb0];by_cases hc:c=48
    ·refine z01 (by rw[hc]; rfl) ?_;have:¬1<(c::r).length:=fun h=>hz ⟨hc,h⟩;simp only[List.length_cons]at this;simp; omega
    ·refine z00 ?_ rfl;intro he;apply hc;rw[<- UInt8.toNat_inj];have h48:(48:UInt8).toNat=48:=rfl;simp at he; omega
   ·simp only[z9h,z16];refine z05 (by simp) ?_;have hcan:z86 (c::r)=(c::r).all z6g:=by
     unfold z86;have:((c::r).head? == some 48&&decide (1<(c::r).length))=false:=by
      cases hb:((c::r).head? == some 48&&decide (1<(c::r).length))with
      | false=>rfl
      | true=>simp at hb; exact absurd ⟨hb.1,by simpa using hb.2⟩ hz
     rw[this]; simp
    generalize hs:c::r=s at *;refine zMz (z7N (T:=1) (out:=fun n:Nat=>[.int n]) (fun i (n:Nat)=>[.int n,.int i]) s gInt (fun i n=>n<10 ^ i/\i<=10) 0 rfl ⟨by decide,by omega⟩ ?_ ?_) ?_ ?_
    ·rintro i n hi ⟨hn,hi10⟩;have hb:byteAt s i=(s[i]).toNat:=z5p hi;have hp10:(10:Nat) ^ i<=10 ^ 10:=Nat.pow_le_pow_right (by omega) hi10;have h10:(10:Nat) ^ 10=10000000000:=by decide
     have hw:=z0P hi hsm;unfold gInt;by_cases hdg:z6g s[i]=true
     ·rw[if_pos hdg];have hdg':=hdg;simp only[z6g,Bool.and_eq_true,decide_eq_true_eq]at hdg';refine⟨z01 (by simpa using hi) (z0w (r:=(0,[.bool false])) (z01 (by simpa using z0B hi) ?_) (sel0 (z00 (by simp) (z01 (by simpa using z0B hi) ?_)))),?_⟩
      ·simp only[z6K,D.i_int,Int.toNat_natCast,D.s_str,hb];refine z00 (fun h=>by have:=of_decide_eq_true h; omega) ?_;have:¬((s[i]).toNat:Int) > 57:=by omega
       simp[this]
      ·simp only[z16,z6K,D.i_int,Int.toNat_natCast,D.s_str,hb,hw];have w1:IntKind.wrap .i64 (10*(n:Int))=10*n:=by rw[z0f] <;> omega
       have w2:IntKind.wrap .u8 (((s[i]).toNat:Int)-48)=(((s[i]).toNat-48:Nat):Int):=by
        have:IntKind.wrap .u8 (((s[i]).toNat:Int)-48)=(((s[i]).toNat:Int)-48) % 256:=by simp[IntKind.wrap,IntKind.bits,IntKind.signed]
        rw[this]; omega
       have w3:IntKind.wrap .i64 ((((s[i]).toNat-48:Nat):Int))=(((s[i]).toNat-48:Nat):Int):=by rw[z0f] <;> omega
       have w4:IntKind.wrap .i64 (10*(n:Int)+(((s[i]).toNat-48:Nat):Int))=((dvF n s[i]:Nat):Int):=by
        unfold dvF; rw[z0f] <;> omega
       rw[w1,w2,w3,w4]
      ·have hp:(10:Nat) ^ (i+1)=10 ^ i*10:=Nat.pow_succ 10 i;unfold dvF;refine⟨by omega,by omega⟩
     ·rw[if_neg hdg];refine z01 (by simpa using hi) (z0w (r:=(0,[.bool true])) (z01 (by simpa using z0B hi) ?_) (sel0 (z01 rfl rfl)));simp only[z6K,D.i_int,Int.toNat_natCast,D.s_str,hb];simp only[z6g,Bool.and_eq_true,decide_eq_true_eq,not_and]at hdg;by_cases h48:((s[i]).toNat:Int)<48
      ·exact z01 (decide_eq_true h48) rfl
      ·refine z00 (fun h=>h48 (of_decide_eq_true h)) ?_;have:((s[i]).toNat:Int) > 57:=by have:=hdg (by omega); omega
       simp[this]
    ·rintro n _;exact z00 (by simp) rfl
    ·intro n hf;rw[zCU]at hf;split at hf
     ·rename_i hall
      cases hf
      have:z2E s=(dv s:Nat):=by
       unfold z2E; rw[if_pos ⟨by rw[hcan]; exact hall,by omega⟩]
      rw[this]; rfl
     ·cases hf
    ·intro e hf;rw[zCU]at hf;split at hf
     ·cases hf
     ·rename_i hall
      cases hf
      have:z2E s=-1:=by
       unfold z2E; rw[if_neg (fun h=>hall (by rw[<- hcan]; exact h.1))]
      rw[this]; rfl
 ·have e1:(decide ((1:Int)<=s.length)&&decide ((s.length:Int)<=10))=false:=by
   cases h:(decide ((1:Int)<=s.length)&&decide ((s.length:Int)<=10))with
   | false=>rfl
   | true=>simp at h; omega
  rw[e1]at hl;refine z0L (r:=(0,[.bool true])) (z04 hl (z01 rfl rfl)) ?_;have:z2E s=-1:=by
   unfold z2E;refine if_neg fun h=>?_;have hc:=h.1;unfold z86 at hc
   cases s with
   | nil=>simp at hc
   | cons c r=>exact hlen ⟨by simp,h.2⟩
  rw[this]; rfl
end Go.Proofs.YtilejnnnkfjmmaaGreatDoor
namespace Go.Proofs.YtilejnnnkfjmmaaGreatDoor
open Go Go.Own
theorem zT4 (n:Int):∃b:List UInt8,b.length=1/\z3d.F [.int n,.int 1]=some (.str b):=by
 rw[zDJ]
 refine⟨_,z1T [.int (IntKind.wrap .u8 (n.fdiv (2 ^ min (IntKind.wrap .i64 (8*0)).toNat (IntKind.bits .i64))))],z0L (r:=(0,[.lst [.int (IntKind.wrap .u8 (n.fdiv (2 ^ min (IntKind.wrap .i64 (8*0)).toNat (IntKind.bits .i64))))]])) ?_ rfl⟩
 have w0:IntKind.wrap .i64 ((1:Int)-1)=0:=by decide
 have w1:IntKind.wrap .i64 ((0:Int)-1)=-1:=by decide
 simp only[D.i_int,w0]
 rw[z1m (l':=[.lst [.int (IntKind.wrap .u8 (n.fdiv (2 ^ min (IntKind.wrap .i64 (8*0)).toNat (IntKind.bits .i64))))],.int (-1)])]
 ·exact z1B rfl
 ·refine z01 (by decide) (z01 (by decide) (z01 (by simp[appOk,z0c]) ?_));simp only[z16,z6K,D.i_int,D.l_lst,w1,List.nil_append]
theorem zMZ (n:Int):∃b:List UInt8,b.length=1/\z1a.F [.int n,.int 1]=some (.str b):=by
 rw[z7V]
 refine⟨_,z1T [.int (IntKind.wrap .u8 n)],z0G (by decide) (z0L (r:=(0,[.lst [.int (IntKind.wrap .u8 n)]])) ?_ rfl)⟩
 have w0:IntKind.wrap .i64 ((1:Int)-1)=0:=by decide
 have w1:IntKind.wrap .i64 ((0:Int)-1)=-1:=by decide
 simp only[D.i_int,w0]
 rw[z1m (l':=[.int (n.fdiv (2 ^ min 8 (IntKind.bits .i64))),.lst [.int (IntKind.wrap .u8 n)],.int (-1)])]
 ·exact z1B rfl
 ·refine z01 rfl (z01 rfl (z01 (by decide) ?_));simp only[z16,z6K,zFY,D.i_int,D.l_lst,w1];rfl
def zAR (s:List UInt8):Bool:=(splB 46 s).all (fun p=>z35 p 255)&&decide ((splB 46 s).length=4)
theorem z7f {ls:List (List UInt8)} {i:Nat} (hi:i<ls.length):gd (ls.map D.str) i=.str ls[i]:=by
 rw[z9E (by simpa using hi)]; simp
theorem zNo {f:List D->Outc} {l:List D} (n:Nat) (p:Nat->Bool) {t1 t2:Nat} {o1:List D} (h0:l=[.str [],.int 0])
 (hp:∀i (s:List UInt8),i<n->s.length=i->(p i=true->∃s':List UInt8,s'.length=i+1/\f [.str s,.int i]=some (0,[.str s',.int ((i+1:Nat):Int)]))/\(p i=false->f [.str s,.int i]=some (t1+1,o1)))
 (hn:∀s:List UInt8,f [.str s,.int n]=some (t2+1,[.str s])) :
 ∃s:List UInt8,z0d f l=some (cond (allN n p) (t2,[.str s]) (t1,o1)):=by
 subst h0
 have key:∀m k (s:List UInt8),m+k=n->s.length=k->(∀i,i<k->p i=true)->∃s':List UInt8,z0d f [.str s,.int k]=some (cond (allN n p) (t2,[.str s']) (t1,o1)):=by
  intro m
  induction m with
  | zero=>
    intro k s hk hs hb;have:k=n:=by omega
    subst this;exact⟨s,by rw[z1B (hn s),z1S.2 hb]; rfl⟩
  | succ m ih=>
    intro k s hk hs hb;have h:=hp k s (by omega) hs
    cases hq:p k with
    | true=>
      obtain⟨s',h1,h2⟩:=h.1 hq;rw[z1m h2];refine ih (k+1) s' (by omega) h1 fun i hi=>?_;by_cases hik:i=k
      ·rw[hik]; exact hq
      ·exact hb i (by omega)
    | false=>
      exact⟨[],by rw[z1B (h.2 hq),z83 (by omega) hq]; rfl⟩
 exact key n 0 [] (by omega) rfl (fun i hi=>by omega)
theorem z4v {α:Type} (l:List α) (q:α->Bool) (d:α):allN l.length (fun i=>q (l.getD i d))=l.all q:=by
 rw[Bool.eq_iff_iff,z1S,List.all_eq_true]
 constructor
 ·intro h x hx;obtain⟨i,hi,rfl⟩:=List.getElem_of_mem hx;have:=h i hi
  rwa [show l.getD i d=l[i] by simp[List.getD_eq_getElem?_getD,List.getElem?_eq_getElem hi]]at this
 ·intro h i hi;rw[show l.getD i d=l[i] by simp[List.getD_eq_getElem?_getD,List.getElem?_eq_getElem hi]];exact h _ (List.getElem_mem hi)
theorem z0E {α:Type} {l:List α} {i:Nat} (hi:i<l.length) (d:α):l.getD i d=l[i]:=by simp[List.getD_eq_getElem?_getD,List.getElem?_eq_getElem hi]
noncomputable def zSQ (ps:List (List UInt8)):List D->Outc:=fun l3=>
 if (decide ((gd l3 1).i<((D.lst (ps.map D.str)).l.length:Int)))then
  if (inb (gd l3 1).i (D.lst (ps.map D.str)).l.length)then
  (z26.F [(gd (D.lst (ps.map D.str)).l (gd l3 1).i.toNat),(.int 255)]).bind fun r5=>
  (if (!(r5.fld 1).b)then
      ou 0 [(.bool true)]
    else
     ou 0 [(.bool (((D.lst (ps.map D.str)).l.length:Int) != 4))]).bind fun o6=>
  sel2 o6.1 (if (gd o6.2 0).b then
   ou 1 []
   else
    (z3d.F [(r5.fld 0),(.int 1)]).bind fun r7=>
    if (catOk (gd l3 0).s r7.s)then
    ou 0 [(.str ((gd l3 0).s++r7.s)),(.int (IntKind.wrap .i64 ((gd l3 1).i+1)))]
    else none) fun _=>none
  else none
 else
  ou 2 [(gd l3 0)]
noncomputable def zSa (ps:List (List UInt8)):List D->Outc:=fun l3=>
 if (decide ((gd l3 1).i<((D.lst (ps.map D.str)).l.length:Int)))then
  if (inb (gd l3 1).i (D.lst (ps.map D.str)).l.length)then
  (z1E.F [(gd (D.lst (ps.map D.str)).l (gd l3 1).i.toNat)]).bind fun r5=>
  (z0i.F [r5,(.int 0),(.int 255)]).bind fun r6=>
  if (!r6.b)then
   ou 1 []
  else
   (z1a.F [r5,(.int 1)]).bind fun r7=>
   if (catOk (gd l3 0).s r7.s)then
   ou 0 [(.str ((gd l3 0).s++r7.s)),(.int (IntKind.wrap .i64 ((gd l3 1).i+1)))]
   else none
  else none
 else
  ou 2 [(gd l3 0)]
theorem zCS {ps:List (List UInt8)} {i:Nat} (hi:i<ps.length) (hsm:ps.length<=smax) (t:List UInt8):zSQ ps [.str t,.int i]=((z26.F [(.str ps[i]),(.int 255)]).bind fun r5=>
 (if (!(r5.fld 1).b)then
     ou 0 [(.bool true)]
   else
    ou 0 [(.bool ((ps.length:Int) != 4))]).bind fun o6=>
 sel2 o6.1 (if (gd o6.2 0).b then
  ou 1 []
  else
   (z3d.F [(r5.fld 0),(.int 1)]).bind fun r7=>
   if (catOk t r7.s)then
   ou 0 [(.str (t++r7.s)),(.int ((i+1:Nat):Int))]
   else none) fun _=>none):=by
 have hlen:(D.lst (ps.map D.str)).l.length=ps.length:=by simp
 have hg:=z7f hi
 refine z01 (by rw[hlen]; simpa using hi) (z01 (by rw[hlen]; simpa using z0B hi) ?_)
 have e1:(gd [D.str t,D.int (i:Int)] 1).i.toNat=i:=by simp
 have e2:(gd [D.str t,D.int (i:Int)] 1).i=i:=rfl
 have e3:(gd [D.str t,D.int (i:Int)] 0).s=t:=rfl
 rw[e1,e2,e3,hlen,show(D.lst (ps.map D.str)).l=ps.map D.str from rfl,hg,z0P hi hsm]
theorem zCV {ps:List (List UInt8)} {i:Nat} (hi:i<ps.length) (hsm:ps.length<=smax) (t:List UInt8):zSa ps [.str t,.int i]=((z1E.F [(.str ps[i])]).bind fun r5=>
 (z0i.F [r5,(.int 0),(.int 255)]).bind fun r6=>
 if (!r6.b)then
  ou 1 []
 else
  (z1a.F [r5,(.int 1)]).bind fun r7=>
  if (catOk t r7.s)then
  ou 0 [(.str (t++r7.s)),(.int ((i+1:Nat):Int))]
  else none):=by
 have hlen:(D.lst (ps.map D.str)).l.length=ps.length:=by simp
 have hg:=z7f hi
 refine z01 (by rw[hlen]; simpa using hi) (z01 (by rw[hlen]; simpa using z0B hi) ?_)
 have e1:(gd [D.str t,D.int (i:Int)] 1).i.toNat=i:=by simp
 have e2:(gd [D.str t,D.int (i:Int)] 1).i=i:=rfl
 have e3:(gd [D.str t,D.int (i:Int)] 0).s=t:=rfl
 rw[e1,e2,e3,show(D.lst (ps.map D.str)).l=ps.map D.str from rfl,hg,z0P hi hsm]
theorem zSW {s:List UInt8} (h:s.length<=lim):∃b:List UInt8,z18.F [.int 1,.str s]=some (.pair (.str b) (.pair (.bool (zAR s)) .unit)):=by
 have hlim:lim=1048576:=rfl
 rw[z5W]
 have hsp:=zMb s (by omega)
 have hpl:=z6Y 46 s
 have hpm:=z6F 46 s
 have hne:=z6w 46 s
 unfold zAR
 generalize splB 46 s=ps at hsp hpl hpm hne
 have hsm:ps.length<=smax:=by rw[z0c]; omega
 have hlen:(D.lst (ps.map D.str)).l.length=ps.length:=by simp
 have hcat:=zNo (f:=zSQ ps) (l:=[D.str [],.int 0]) ps.length (fun i=>z35 (ps.getD i []) 255&&decide (ps.length=4)) (t1:=0) (t2:=1) (o1:=[]) rfl ?_ ?_
 ·obtain⟨b,hb⟩:=hcat;refine⟨cond (allN ps.length (fun i=>z35 (ps.getD i []) 255&&decide (ps.length=4))) b [],z0G rfl (z03 hsp (z0L hb ?_))⟩;have hall:allN ps.length (fun i=>z35 (ps.getD i []) 255&&decide (ps.length=4))=(ps.all (fun p=>z35 p 255)&&decide (ps.length=4)):=by
   rw[<- z4v ps (fun p=>z35 p 255) []];by_cases h4:ps.length=4
   ·simp[h4]
   ·have:allN ps.length (fun i=>z35 (ps.getD i []) 255&&decide (ps.length=4))=false:=by
     have hpos:0<ps.length:=List.length_pos_iff.2 hne;exact z83 hpos (by simp[h4])
    rw[this]; simp[h4]
  rw[hall]
  cases (ps.all (fun p=>z35 p 255)&&decide (ps.length=4)) <;> rfl
 ·intro i t hi ht;rw[z0E hi];have hpi:=hpm _ (List.getElem_mem hi);obtain⟨v,hnum,hv⟩:=z78 (s:=ps[i]) (m:=255) (by omega) (by decide);have hg:=z7f hi;constructor
  ·intro hp;simp only[Bool.and_eq_true,decide_eq_true_eq]at hp;rw[hp.1]at hnum;obtain⟨b,hbl,hbig⟩:=zT4 v;refine⟨t++b,by simp[ht,hbl],(zCS hi hsm t).trans (z04 hnum (z0w (r:=(0,[.bool false])) (z00 (by simp) (by simp[hp.2])) (sel0 (z00 (by simp) (z04 hbig (z01 ?_ rfl))))))⟩;simp[catOk,z0c,hbl]; omega
  ·intro hp;refine(zCS hi hsm t).trans (z04 hnum (z0w (r:=(0,[.bool true])) ?_ (sel0 (z01 rfl rfl))))
   cases hq:z35 ps[i] 255 with
   | false=>exact z01 rfl rfl
   | true=>
     rw[hq]at hp;simp only[Bool.true_and,decide_eq_false_iff_not]at hp;refine z00 (by simp) ?_;have:((ps.length:Int) != 4)=true:=by simp; omega
     rw[this]
 ·intro t;exact z00 (by simp) rfl
theorem zTa {s:List UInt8} (h:s.length<=lim):∃b:List UInt8,z1c.F [.int 1,.str s]=some (.pair (.str b) (.pair (.bool (zAR s)) .unit)):=by
 have hlim:lim=1048576:=rfl
 rw[z6W]
 have hsp:=z6c s 46 h
 have hpl:=z6Y 46 s
 have hpm:=z6F 46 s
 unfold zAR
 generalize splB 46 s=ps at hsp hpl hpm
 have hsm:ps.length<=smax:=by rw[z0c]; omega
 have hlen:(D.lst (ps.map D.str)).l.length=ps.length:=by simp
 have hcat:=zNo (f:=zSa ps) (l:=[D.str [],.int 0]) ps.length (fun i=>z35 (ps.getD i []) 255) (t1:=0) (t2:=1) (o1:=[]) rfl ?_ ?_
 ·obtain⟨b,hb⟩:=hcat;refine⟨cond (allN ps.length (fun i=>z35 (ps.getD i []) 255)) b [],z0G rfl (z03 hsp (z0L hb ?_))⟩;rw[z4v ps (fun p=>z35 p 255) []]
  cases ps.all (fun p=>z35 p 255)with
  | false=>rfl
  | true=>
    simp only[cond_true,zF9,z9h,z16,hlen];have:((ps.length:Int)==4)=decide (ps.length=4):=by
     rw[Bool.eq_iff_iff]; simp; omega
    rw[this]; rfl
 ·intro i t hi ht;rw[z0E hi];have hpi:=hpm _ (List.getElem_mem hi);have hint:=z7K (s:=ps[i]) (by omega);have hg:=z7f hi;have hin:=zBX (z2E ps[i]) 0 255;have hok:(decide ((0:Int)<=z2E ps[i])&&decide (z2E ps[i]<=255))=z35 ps[i] 255:=by
   unfold z2E z35;by_cases hc:z86 ps[i]=true
   ·by_cases hd:(dv ps[i]:Int)<=255
    ·have hl10:ps[i].length<=10:=by
      have:=zCR (k:=10) (u:=dv ps[i]) (by omega) (by omega)
      rwa [<- (z7C _).1 hc]at this
     rw[if_pos ⟨hc,hl10⟩];simp[hc,hd]
    ·have e:decide ((dv ps[i]:Int)<=255)=false:=by simpa using hd
     rw[e,Bool.and_false];by_cases hl10:ps[i].length<=10
     ·rw[if_pos ⟨hc,hl10⟩,e]; simp
     ·rw[if_neg (fun h=>hl10 h.2)]; simp
   ·have hc':z86 ps[i]=false:=by simpa using hc
    rw[if_neg (fun h=>hc h.1),hc']; simp
  rw[hok]at hin;constructor
  ·intro hp;rw[hp]at hin;obtain⟨b,hbl,hnum⟩:=zMZ (z2E ps[i]);refine⟨t++b,by simp[ht,hbl],(zCV hi hsm t).trans (z04 hint (z04 hin (z00 (by simp) (z04 hnum (z01 ?_ rfl)))))⟩;simp[catOk,z0c,hbl]; omega
  ·intro hp;rw[hp]at hin;exact(zCV hi hsm t).trans (z04 hint (z04 hin (z01 rfl rfl)))
 ·intro t;exact z00 (by simp) rfl
end Go.Proofs.YtilejnnnkfjmmaaGreatDoor
namespace Go.Own
variable [Glb]
open Go
theorem zPy {f:List D->Outc} {l:List D} (Inv:Nat->List UInt8->Prop) (n:Nat) {t:Nat} (s0:List UInt8) (hl:l=[.str s0,.int 0]) (h0:Inv 0 s0)
 (h:∀i s,i<n->Inv i s->∃s',f [.str s,.int i]=some (0,[.str s',.int ((i+1:Nat):Int)])/\Inv (i+1) s') (hn:∀s,f [.str s,.int n]=some (t+1,[.str s])) :
 ∃s,Inv n s/\z0d f l=some (t,[.str s]):=by
 subst hl
 have key:∀m k s,m+k=n->Inv k s->∃s',Inv n s'/\z0d f [.str s,.int k]=some (t,[.str s']):=by
  intro m
  induction m with
  | zero=>
    intro k s hk hi;have:k=n:=by omega
    subst this;exact⟨s,hi,z1B (hn s)⟩
  | succ m ih=>
    intro k s hk hi;obtain⟨s',h1,h2⟩:=h k s (by omega) hi;obtain⟨s'',h3,h4⟩:=ih (k+1) s' (by omega) h2;exact⟨s'',h3,by rw[z1m h1]; exact h4⟩
 exact key n 0 s0 (by omega) h0
theorem zA4 {b c:UInt8} (hbc:c≠b):∀s:List UInt8,c∈s↔∃p∈splB b s,c∈p
 | []=>by simp[splB]
 | x::s=>by
   have ih:=zA4 hbc s;unfold splB;split
   ·rename_i hx;subst hx;simp only[List.mem_cons,hbc,false_or,ih];constructor
    ·rintro⟨p,hp,hc⟩; exact⟨p,.inr hp,hc⟩
    ·rintro⟨p,hp,hc⟩;rcases hp with rfl | hp
     ·simp at hc
     ·exact⟨p,hp,hc⟩
   ·split
    ·rename_i p ps hq;rw[hq]at ih;simp only[List.mem_cons]at ih |-;rw[ih];constructor
     ·rintro(rfl | ⟨q,rfl | hqm,hc⟩)
      ·exact⟨_,.inl rfl,by simp⟩
      ·exact⟨_,.inl rfl,by simp[hc]⟩
      ·exact⟨q,.inr hqm,hc⟩
     ·rintro⟨q,rfl | hqm,hc⟩
      ·simp only[List.mem_cons]at hc;rcases hc with rfl | hc
       ·exact .inl rfl
       ·exact .inr ⟨p,.inl rfl,hc⟩
      ·exact .inr ⟨q,.inr hqm,hc⟩
    ·rename_i hq;exact absurd hq (z6w b s)
end Go.Own
namespace Go.Proofs.YtilejnnnkfjmmaaGreatDoor
open Go Go.Own
def z61 (s:List UInt8):Bool:=!s.isEmpty&&(z11 s && !(s.contains 42))
theorem zKU (s:List UInt8) (c:UInt8):Lib.contains s [c]=s.contains c:=by
 unfold Lib.contains
 by_cases h:c∈s
 ·obtain⟨p,q,rfl,hp⟩:=zAz h;rw[z60 hp]; simp
 ·rw[z7z h];have:s.contains c=false:=by simpa using h
  rw[this]; rfl
theorem zI9 {s:List UInt8} (h:s.length<=lim):z1j.F [.str s,.str [42]]=some (.bool (s.contains 42)):=by
 rw[show z1j.F=z9A from by unfold z1j z99; rfl]
 unfold z9A
 have hlim:lim=1048576:=rfl
 refine(if_pos (by simp; omega)).trans ?_
 simp[zKU]
theorem z9s {s:List UInt8} (h:s.length<=lim):z45.F [.str s]=some (.bool (z61 s)):=by
 rw[zGj]
 have hn:=zCT s
 have hc:=zI9 h
 refine z0L (r:=(0,[.bool (z61 s)])) ?_ rfl
 unfold z61
 by_cases h0:s=[]
 ·subst h0; exact z00 (by simp) rfl
 ·have he:s.isEmpty=false:=by cases s <;> simp_all
  rw[he];refine z01 (by simpa using h0) ?_
  cases h1:z11 s with
  | false=>rw[h1]at hn; exact z04 hn (z00 (by simp) rfl)
  | true=>rw[h1]at hn; exact z04 hn (z01 rfl (z04 hc (by simp)))
theorem zLF {s:List UInt8} (h:z11 s=true) (h0:s≠[]):s.contains 42=(z1v s).any (· == [42]):=by
 have he:s.isEmpty=false:=by cases s <;> simp_all
 have hp:z1v s=splB 46 s:=by unfold z1v; rw[he]; rfl
 rw[hp]
 unfold z11 at h
 rw[he]at h
 simp only[Bool.and_eq_true,Bool.false_or,List.all_eq_true,decide_eq_true_eq]at h
 rw[Bool.eq_iff_iff,List.any_eq_true]
 have hh:=zA4 (b:=46) (c:=42) (by decide) s
 constructor
 ·intro hc;obtain⟨p,hp,hcp⟩:=hh.1 (by simpa using hc);refine⟨p,hp,?_⟩;have:=h.2.2 p hp;unfold z6H at this;simp only[Bool.or_eq_true,Bool.and_eq_true,List.all_eq_true]at this;rcases this with h1 | h1
  ·exact h1
  ·have:=h1.2 42 hcp;exact absurd this (by decide)
 ·rintro⟨p,hp,hpe⟩;have:p=[42]:=by simpa using hpe
  subst this;simpa using hh.2 ⟨[42],hp,by simp⟩
theorem z9u {s:List UInt8} (h:s.length<=lim):z4B.F [.str s]=some (.bool (z61 s)):=by
 have hlim:lim=1048576:=rfl
 rw[zGu]
 obtain⟨ls,hl,hll,hpt⟩:=z5Y s h
 have hsm:ls.length<=smax:=by rw[z0c]; omega
 have hlen:(D.lst (ls.map D.str)).l.length=ls.length:=by simp
 have f0:((D.pair (.lst (ls.map D.str)) (.pair (.bool (z11 s)) .unit)).fld 0).l=ls.map D.str:=rfl
 have f1:(D.pair (.lst (ls.map D.str)) (.pair (.bool (z11 s)) .unit)).fld 1=.bool (z11 s):=rfl
 refine z03 hl ?_
 rw[f0,f1,List.length_map]
 refine z0L (z2Q (fun i (b:Bool)=>[.bool b,.int i]) ls.length (fun i=>z11 s&&(ls.take i).all (fun x=>!(x==[42]))) (t:=0) (o:=[.bool (z11 s&&ls.all (fun x=>!(x==[42])))]) (by simp) ?_ ?_) ?_
 ·intro i hi;have hg:=z7f hi;refine z01 (by simpa using hi) (z0w (r:=(0,[.bool (z11 s&&(ls.take (i+1)).all (fun x=>!(x==[42])))])) (z01 (by simpa using z0B hi) ?_) (sel0 ?_))
  ·simp only[z16,z6K,D.i_int,Int.toNat_natCast,D.b_bool,hg];rw[List.take_succ_eq_append_getElem hi,List.all_append,<- Bool.and_assoc]
   cases (z11 s&&(ls.take i).all (fun x=>!(x==[42])))with
   | false=>exact z00 (by simp) (by simp)
   | true=>exact z01 rfl (by simp)
  ·simp[z0P hi hsm]
 ·simp
 ·refine z0L (r:=(0,[.bool (z61 s)])) ?_ rfl;unfold z61
  cases hn:z11 s with
  | false=>exact z00 (by simp) (by simp)
  | true=>
    have hls:=hpt hn;subst hls;by_cases h0:s=[]
    ·subst h0; exact z01 rfl rfl
    ·have he:s.isEmpty=false:=by cases s <;> simp_all
     have hs:=zLF hn h0;have hall:(z1v s).all (fun x=>!(x==[42])) = !(s.contains 42):=by
      rw[hs];rw[Bool.eq_iff_iff]; simp
     rw[hall,he]
     cases s.contains 42 with
     | true=>exact z00 (by simp) (by simp)
     | false=>exact z01 rfl (by simp[h0])
theorem z6x {a b:List UInt8} (h:a.length+b.length<=4*lim+100):catOk a b=true:=by
 have hlim:lim=1048576:=rfl
 unfold catOk
 rw[z0c]
 exact decide_eq_true (by omega)
theorem z7T (s:List UInt8):(z1v s).length<=s.length+1/\∀p∈z1v s,p.length<=20\/True:=by
 unfold z1v
 split
 ·simp
 ·exact⟨z6Y 46 s,fun _ _=>.inr trivial⟩
def lens (ls:List (List UInt8)):Nat:=(ls.map fun p=>p.length+1).sum
theorem zPt {ls:List (List UInt8)} {i:Nat} (hi:i<ls.length):lens (ls.take (i+1))=lens (ls.take i)+(ls[i].length+1):=by
 unfold lens
 rw[List.take_succ_eq_append_getElem hi,List.map_append,List.sum_append_nat]
 simp only[List.map_cons,List.map_nil,List.sum_cons,List.sum_nil,Nat.add_zero]
theorem zPs (ls:List (List UInt8)) (i:Nat):lens (ls.take i)<=lens ls:=by
 unfold lens
 conv=>rhs; rw[<- List.take_append_drop i ls]
 rw[List.map_append,List.sum_append_nat]
 exact Nat.le_add_right _ _
theorem z9I (b:UInt8):∀s:List UInt8,lens (splB b s)=s.length+1
 | []=>rfl
 | c::s=>by
   have ih:=z9I b s;unfold lens at ih |-;unfold splB;split
   ·simp only[List.map_cons,List.sum_cons,ih,List.length_cons,List.length_nil]; omega
   ·split
    ·rename_i p ps hq;rw[hq]at ih;simp only[List.map_cons,List.sum_cons,List.length_cons]at ih |-; omega
    ·rename_i hq;exact absurd hq (z6w b s)
theorem zCp (s:List UInt8):lens (z1v s)<=s.length+1:=by
 unfold z1v
 split
 ·simp[lens]
 ·rw[z9I]; exact Nat.le_refl _
def labB (ls:List (List UInt8)):List UInt8:=(ls.map fun p=>z0k [.int (IntKind.wrap .u8 (p.length:Int))]++p).flatten
theorem zPp {ls:List (List UInt8)} {i:Nat} (h:i<ls.length):labB (ls.take (i+1))=labB (ls.take i)++(z0k [.int (IntKind.wrap .u8 (ls[i].length:Int))]++ls[i]):=by
 unfold labB
 rw[List.take_add_one,List.getElem?_eq_getElem h,List.map_append,List.flatten_append]; simp
theorem zJQ {ls:List (List UInt8)} (hl:lens ls<=2*lim) (hn:ls.length<=2*lim):∃s:List UInt8,s.length<=2*lim/\z0d (fun l2=>
 if (decide ((gd l2 1).i<((D.lst (ls.map D.str)).l.length:Int)))then
  if (inb (gd l2 1).i (D.lst (ls.map D.str)).l.length)then
  if (catOk (z0k ((.int (IntKind.wrap .u8 ((gd (D.lst (ls.map D.str)).l (gd l2 1).i.toNat).s.length:Int)))::([]:List D))) (gd (D.lst (ls.map D.str)).l (gd l2 1).i.toNat).s)then
  if (catOk (gd l2 0).s ((z0k ((.int (IntKind.wrap .u8 ((gd (D.lst (ls.map D.str)).l (gd l2 1).i.toNat).s.length:Int)))::([]:List D)))++(gd (D.lst (ls.map D.str)).l (gd l2 1).i.toNat).s))then
  ou 0 [(.str ((gd l2 0).s++((z0k ((.int (IntKind.wrap .u8 ((gd (D.lst (ls.map D.str)).l (gd l2 1).i.toNat).s.length:Int)))::([]:List D)))++(gd (D.lst (ls.map D.str)).l (gd l2 1).i.toNat).s))),(.int (IntKind.wrap .i64 ((gd l2 1).i+1)))]
  else none
  else none
  else none
 else
  ou 1 [(gd l2 0)]) [(D.str []),(.int 0)]=some (0,[.str s])/\s=labB ls:=by
 have hlim:lim=1048576:=rfl
 have hsm:ls.length<=smax:=by rw[z0c]; omega
 have hlen:(D.lst (ls.map D.str)).l.length=ls.length:=by simp
 obtain⟨s,hs,hloop⟩:=zPy (fun i s=>s.length=lens (ls.take i)/\s=labB (ls.take i)) ls.length (t:=0) [] rfl (by simp[lens,labB]) (f:=fun l2=>
  if (decide ((gd l2 1).i<((D.lst (ls.map D.str)).l.length:Int)))then
   if (inb (gd l2 1).i (D.lst (ls.map D.str)).l.length)then
   if (catOk (z0k ((.int (IntKind.wrap .u8 ((gd (D.lst (ls.map D.str)).l (gd l2 1).i.toNat).s.length:Int)))::([]:List D))) (gd (D.lst (ls.map D.str)).l (gd l2 1).i.toNat).s)then
   if (catOk (gd l2 0).s ((z0k ((.int (IntKind.wrap .u8 ((gd (D.lst (ls.map D.str)).l (gd l2 1).i.toNat).s.length:Int)))::([]:List D)))++(gd (D.lst (ls.map D.str)).l (gd l2 1).i.toNat).s))then
   ou 0 [(.str ((gd l2 0).s++((z0k ((.int (IntKind.wrap .u8 ((gd (D.lst (ls.map D.str)).l (gd l2 1).i.toNat).s.length:Int)))::([]:List D)))++(gd (D.lst (ls.map D.str)).l (gd l2 1).i.toNat).s))),(.int (IntKind.wrap .i64 ((gd l2 1).i+1)))]
   else none
   else none
   else none
  else
   ou 1 [(gd l2 0)]) (by
  rintro i s hi ⟨hs,hs'⟩;have hg:=z7f hi;have hti:=zPt hi;have htl:=zPs ls (i+1);have hb:=z1T [.int (IntKind.wrap .u8 (ls[i].length:Int))];refine⟨s++(z0k [.int (IntKind.wrap .u8 (ls[i].length:Int))]++ls[i]),?_,by simp[hs,hti,hb]; omega,by rw[hs',<- zPp hi]⟩;refine z01 (by rw[hlen]; simpa using hi) (z01 (by rw[hlen]; simpa using z0B hi) ?_);have e1:(gd [D.str s,D.int (i:Int)] 1).i.toNat=i:=by simp
  have e2:(gd [D.str s,D.int (i:Int)] 1).i=i:=rfl;have e3:(gd [D.str s,D.int (i:Int)] 0).s=s:=rfl;rw[e1,e2,e3,show(D.lst (ls.map D.str)).l=ls.map D.str from rfl,hg,z0P hi hsm];simp only[D.s_str];refine z01 (z6x (by rw[hb,List.length_singleton]; omega)) (z01 (z6x (by rw[List.length_append,hb,List.length_singleton]; omega)) rfl)) (by
  intro s;exact z00 (by rw[hlen]; simp) rfl)
 refine⟨s,?_,hloop,by rw[hs.2,List.take_length]⟩
 have:=zPs ls ls.length
 have:=hs.1
 omega
theorem zDk {s:List UInt8} (h:s.length<=lim):∃b:List UInt8,b.length<=2*lim/\z2X.F [.str s]=some (.str b):=by
 have hlim:lim=1048576:=rfl
 rw[z8Q]
 have hl:=z89 s (by omega)
 have hp:(if s.isEmpty then []else splB 46 s)=z1v s:=rfl
 rw[hp]at hl
 obtain⟨b,hb,hloop,_⟩:=zJQ (ls:=z1v s) (Nat.le_trans (zCp s) (by omega)) (Nat.le_trans (z7T s).1 (by omega))
 exact⟨b,hb,z03 hl (z0L hloop rfl)⟩
theorem zKi {s:List UInt8} (h:s.length<=lim) (hn:z11 s=true):∃b:List UInt8,b.length<=2*lim+1/\z3q.F [.str s]=some (.str b):=by
 have hlim:lim=1048576:=rfl
 rw[zAd]
 obtain⟨ls,hl,hll,hpt⟩:=z5Y s h
 rw[hpt hn]at hl
 obtain⟨b,hb,hloop,_⟩:=zJQ (ls:=z1v s) (Nat.le_trans (zCp s) (by omega)) (Nat.le_trans (z7T s).1 (by omega))
 refine⟨b++[0],by simp; omega,z03 hl (z0L hloop (z0G (z6x (by simp; omega)) ?_))⟩
 simp
end Go.Proofs.YtilejnnnkfjmmaaGreatDoor
namespace Go.Proofs.YtilejnnnkfjmmaaGreatDoor
open Go Go.Own
theorem zSU {c:Nat} (hc:c<=4) (n:Int):∃b:List UInt8,b.length=c/\z3d.F [.int n,.int c]=some (.str b):=by
 rw[zDJ]
 have w0:IntKind.wrap .i64 ((c:Int)-1)=(c:Int)-1:=by rw[z0f] <;> omega
 simp only[D.i_int,w0]
 obtain⟨l,hl,hloop⟩:=zBp (f:=fun l2=>
  if (decide ((gd l2 1).i >= 0))then
   if (decide (0<=(IntKind.wrap .i64 (8*(gd l2 1).i))))then
   if (appOk 1 (gd l2 0).l ((.int (IntKind.wrap .u8 (n.fdiv (2 ^ min (IntKind.wrap .i64 (8*(gd l2 1).i)).toNat (IntKind.bits .i64)))))::([]:List D)))then
   ou 0 [(D.lst ((gd l2 0).l++((.int (IntKind.wrap .u8 (n.fdiv (2 ^ min (IntKind.wrap .i64 (8*(gd l2 1).i)).toNat (IntKind.bits .i64)))))::([]:List D)))),(.int (IntKind.wrap .i64 ((gd l2 1).i-1)))]
   else none
   else none
  else
   ou 1 [(gd l2 0)]) (l:=[.lst [],.int ((c:Int)-1)]) (fun m (zs:List D)=>[.lst zs,.int ((m:Int)-1)]) (fun m zs=>zs.length+m=c) (t:=0) (out:=fun zs=>[.lst zs]) c [] rfl (by simp) (by
  intro m zs hz;have w1:IntKind.wrap .i64 (8*(((m+1:Nat):Int)-1))=8*(m:Int):=by rw[z0f] <;> omega
  have w2:IntKind.wrap .i64 ((((m+1:Nat):Int)-1)-1)=(m:Int)-1:=by rw[z0f] <;> omega
  refine⟨zs++[.int (IntKind.wrap .u8 (n.fdiv (2 ^ min (8*(m:Int)).toNat (IntKind.bits .i64))))],z01 (decide_eq_true (by simp)) (z01 ?_ (z01 ?_ ?_)),by simp; omega⟩
  ·simp only[z6K,D.i_int,w1]; exact decide_eq_true (by omega)
  ·simp only[z16,D.l_lst,appOk,List.length_singleton];simp[z0c]; omega
  ·simp only[z16,z6K,D.i_int,D.l_lst,w1,w2]) (by
  intro zs _;exact z00 (by simp) rfl)
 refine⟨z0k l,by rw[z1T]; omega,z0L hloop rfl⟩
theorem zIB {c:Nat} (hc:c<=4) (n:Int):∃b:List UInt8,b.length=c/\z1a.F [.int n,.int c]=some (.str b):=by
 rw[z7V]
 have w0:IntKind.wrap .i64 ((c:Int)-1)=(c:Int)-1:=by rw[z0f] <;> omega
 simp only[D.i_int,w0]
 obtain⟨l,hl,hloop⟩:=zBp (f:=fun l2=>
  if (decide ((gd l2 2).i >= 0))then
   if (inb (gd l2 2).i (gd l2 1).l.length)then
   if (decide (0<=8))then
   ou 0 [(.int ((gd l2 0).i.fdiv (2 ^ min 8 (IntKind.bits .i64)))),(D.lst ((gd l2 1).l.set (gd l2 2).i.toNat (.int (IntKind.wrap .u8 (gd l2 0).i)))),(.int (IntKind.wrap .i64 ((gd l2 2).i-1)))]
   else none
   else none
  else
   ou 1 [(gd l2 1)]) (l:=[.int n,.lst (List.replicate ((c:Int)).toNat (.int 0)),.int ((c:Int)-1)]) (fun m (z:Int×List D)=>[.int z.1,.lst z.2,.int ((m:Int)-1)]) (fun m z=>z.2.length=c/\m<=c) (t:=0) (out:=fun z=>[.lst z.2]) c (n,List.replicate c (.int 0)) (by simp) (by simp) (by
  intro m z hz;have w2:IntKind.wrap .i64 ((((m+1:Nat):Int)-1)-1)=(m:Int)-1:=by rw[z0f] <;> omega
  refine⟨(z.1.fdiv (2 ^ min 8 (IntKind.bits .i64)),z.2.set m (.int (IntKind.wrap .u8 z.1))),z01 (decide_eq_true (by simp)) (z01 ?_ (z01 (by decide) ?_)),by simp; omega⟩
  ·simp only[zFY,z6K,D.i_int,D.l_lst]; exact z5z (by omega) (by omega)
  ·have e:(((m+1:Nat):Int)-1).toNat=m:=by omega
   simp only[z16,z6K,zFY,D.i_int,D.l_lst,w2,e]) (by
  intro zs _;exact z00 (by simp) rfl)
 refine⟨z0k l.2,by rw[z1T]; omega,z0G ?_ (z0L hloop rfl)⟩
 exact zII (by have:lim=1048576:=rfl; omega) (by decide)
theorem z9w {s:List UInt8} {m:Int} (hm:m<10000000000):(decide ((0:Int)<=z2E s)&&decide (z2E s<=m))=z35 s m:=by
 unfold z2E z35
 by_cases hc:z86 s=true
 ·by_cases hd:(dv s:Int)<=m
  ·have hl10:s.length<=10:=by
    have:=zCR (k:=10) (u:=dv s) (by omega) (by omega)
    rwa [<- (z7C _).1 hc]at this
   rw[if_pos ⟨hc,hl10⟩];simp[hc,hd]
  ·have e:decide ((dv s:Int)<=m)=false:=by simpa using hd
   rw[e,Bool.and_false];by_cases hl10:s.length<=10
   ·rw[if_pos ⟨hc,hl10⟩,e]; simp
   ·rw[if_neg (fun h=>hl10 h.2)]; simp
 ·have hc':z86 s=false:=by simpa using hc
  rw[if_neg (fun h=>hc h.1),hc']; simp
def mxP:List (List UInt8)->Bool
 | [a,b]=>z35 a 65535&&z61 b
 | _=>false
def mxOk (s:List UInt8):Bool:=mxP (splB 32 s)
def zOy (s:List UInt8):Bool:=decide (s.length<=30)&&s.all (fun c=>decide (32<=c.toNat)&&decide (c.toNat<=126))
def z3g (k:Int) (s:List UInt8):Bool:=
 if k=1 then zAR s else if k=2\/k=5 then z61 s else if k=6 then z35 s 4294967295 else if k=15 then mxOk s else if k=16 then zOy s else false
theorem zM0 {q:List UInt8} (h:32∈q):z61 q=false:=by
 cases hq:z61 q with
 | false=>rfl
 | true=>
   exfalso;unfold z61 z11 at hq;simp only[Bool.and_eq_true,Bool.or_eq_true,List.all_eq_true,decide_eq_true_eq,Bool.not_eq_true']at hq;obtain⟨p,hp,hc⟩:=(zA4 (b:=46) (c:=32) (by decide) q).1 h;rcases hq.2.1.2 with he | he
   ·rw[he]at hq; simp at hq
   ·have:=he.2 p hp;unfold z6H at this;simp only[Bool.or_eq_true,Bool.and_eq_true,List.all_eq_true]at this;rcases this with h1 | h1
    ·have:p=[42]:=by simpa using h1
     subst this;exact absurd hc (by decide)
    ·exact absurd (h1.2 32 hc) (by decide)
theorem zR4 {s:List UInt8} (h:32∉s):Lib.cut s [32]=(s,[],false):=by
 unfold Lib.cut
 rw[z7z h]; rfl
theorem z8W {p q:List UInt8} (h:32∉p):Lib.cut (p++32::q) [32]=(p,q,true):=by
 unfold Lib.cut
 rw[z60 h]
 simp
theorem zPY {s:List UInt8} (h:s.length<=lim):z3B.F [.str s,.str [32]]=some (cutD (Lib.cut s [32])):=by
 rw[show z3B.F=cutF from by unfold z3B cutE; rfl]
 unfold cutF
 have hlim:lim=1048576:=rfl
 exact if_pos (by simp; omega)
theorem zQ1 (s:List UInt8):mxOk s=(z35 (Lib.cut s [32]).1 65535&&z61 (Lib.cut s [32]).2.1):=by
 unfold mxOk
 by_cases h:32∈s
 ·obtain⟨p,q,rfl,hp⟩:=zAz h;rw[z8W hp,z56 hp];by_cases hq:32∈q
  ·rw[zM0 hq,Bool.and_false];obtain⟨p2,q2,rfl,hp2⟩:=zAz hq;rw[z56 hp2]
   cases hh:splB 32 q2 with
   | nil=>exact absurd hh (z6w 32 q2)
   | cons a l=>rfl
  ·rw[z3n hq]; rfl
 ·rw[zR4 h,z3n h];simp[z61,mxP]
end Go.Proofs.YtilejnnnkfjmmaaGreatDoor
namespace Go.Proofs.YtilejnnnkfjmmaaGreatDoor
open Go Go.Own
theorem z06 {o:Outc} {l:List D} {A:Nat×List D->Outc} {B:Nat×List D->Nat->Outc} {R:Option D} (h:o=some (0,l)) (hk:rn (A (0,l))=R):rn (o.bind fun o=>sel2 o.1 (A o) (B o))=R:=by
 rw[h]; exact hk
theorem zSV (n:Int):z2z.F [.int n]=some (.bool !(decide (32<=n)&&decide (n<=126))):=by
 rw[zC9]
 by_cases h:n<32
 ·have:decide (32<=n)=false:=by simp; omega
  simp[h,this]
 ·have h1:decide (32<=n)=true:=by simp; omega
  by_cases h2:n > 126
  ·have:decide (n<=126)=false:=by simp; omega
   simp[h,h1,h2,this]
  ·have:decide (n<=126)=true:=by simp; omega
   simp[h,h1,h2,this]
theorem zNh {s:List UInt8} {i:Nat} (hi:i<s.length):gd (s.map fun c=>D.int c.toNat) i=.int (s[i]).toNat:=by
 rw[z9E (by simpa using hi)]; simp
theorem zFS {s:List UInt8} (u:D) (hl:s.length<=smax):z0X.F [.lst (s.map fun c=>D.int c.toNat),u]=some (.bool !(s.all (fun c=>decide (32<=c.toNat)&&decide (c.toNat<=126)))):=by
 rw[z3b]
 let q:UInt8->Bool:=fun c=>decide (32<=c.toNat)&&decide (c.toNat<=126)
 have key:∃r,z0a.F [.lst (s.map fun c=>D.int c.toNat),u]=some r/\∃n:Int,r=.int n/\decide (n >= 0) = !(s.all q):=by
  rw[z3v];have hp:∀i (hi:i<s.length),z2z.F [.int (s[i]).toNat]=some (.bool !(q s[i])):=fun i hi=>by
   rw[zSV];have:(decide ((32:Int)<=(s[i]).toNat)&&decide (((s[i]).toNat:Int)<=126))=q s[i]:=by
    simp only[q];rw[Bool.eq_iff_iff]; simp; omega
   rw[this]
  refine zJ2 (fun i=>[.int i]) s.length (fun i=>q (s.getD i 0)) (t1:=0) (t2:=1) (o1:=fun i=>[.int i]) (o2:=[]) rfl ?_ ?_ ?_ ?_ ?_
  ·intro i hi h;rw[z0E hi]at h;have:=hp i hi;rw[h]at this;simp[hi,z0B hi,z0P hi hl,zNh hi,this]
  ·intro i hi h;rw[z0E hi]at h;have:=hp i hi;rw[h]at this;simp[hi,z0B hi,zNh hi,this]
  ·simp
  ·intro hall;refine⟨_,rfl,-1,rfl,?_⟩;have:s.all q=true:=by
    rw[<- z4v s q 0,z1S]; exact hall
   rw[this]; rfl
  ·intro j hj hp' _;refine⟨_,rfl,j,rfl,?_⟩;have:s.all q=false:=by
    rw[<- z4v s q 0]; exact z83 hj hp'
   rw[this]; simp
 obtain⟨r,h1,n,rfl,h2⟩:=key
 refine z03 h1 ?_
 show some (D.bool (decide (n >= 0)))=some (D.bool !(s.all q))
 rw[h2]
theorem zRz {k:Int} {s:List UInt8} (h:s.length<=lim):∃b:List UInt8,z18.F [.int k,.str s]=some (.pair (.str b) (.pair (.bool (z3g k s)) .unit)):=by
 have hlim:lim=1048576:=rfl
 unfold z3g
 by_cases k1:k=1
 ·subst k1; rw[if_pos rfl]; exact zSW h
 rw[if_neg k1,z5W]
 have e1:¬((D.int k).i==1)=true:=by simpa using k1
 by_cases k25:k=2\/k=5
 ·rw[if_pos k25];have ht:=z9s h;have hj:(if (D.int k).i==2 then ou 0 [.bool ((D.int k).i==2)]else ou 0 [.bool ((D.int k).i==5)]:Outc)=some (0,[.bool true]):=by
   rcases k25 with rfl | rfl <;> rfl
  cases hq:z61 s with
  | false=>
    rw[hq]at ht;exact⟨[],z05 e1 (z06 hj (z0G rfl (z03 ht (z0G rfl rfl))))⟩
  | true=>
    rw[hq]at ht;obtain⟨b,hb,hlb⟩:=zDk h;exact⟨b++[0],z05 e1 (z06 hj (z0G rfl (z03 ht (z05 (by simp) (z03 hlb (z0G (z6x (by simp; omega)) rfl))))))⟩
 rw[if_neg k25]
 have hj:(if (D.int k).i==2 then ou 0 [.bool ((D.int k).i==2)]else ou 0 [.bool ((D.int k).i==5)]:Outc)=some (0,[.bool false]):=by
  have h2:¬k=2:=fun h=>k25 (.inl h);have h5:¬k=5:=fun h=>k25 (.inr h);simp[h2,h5]
 by_cases k6:k=6
 ·rw[if_pos k6]; subst k6;obtain⟨v,hn,_⟩:=z78 (s:=s) (m:=4294967295) h (by decide)
  cases hq:z35 s 4294967295 with
  | false=>
    rw[hq]at hn;exact⟨[],z05 e1 (z06 hj (z05 (by simp) (z0G rfl (z03 hn (z0G rfl rfl)))))⟩
  | true=>
    rw[hq]at hn;obtain⟨b,_,hb⟩:=zSU (c:=4) (by omega) v;exact⟨b,z05 e1 (z06 hj (z05 (by simp) (z0G rfl (z03 hn (z05 (by simp) (z03 hb rfl))))))⟩
 rw[if_neg k6]
 have e6:¬((D.int k).i==6)=true:=by simpa using k6
 by_cases k15:k=15
 ·rw[if_pos k15]; subst k15;rw[zQ1];have hc:=zPY h;have hle:=zNS s [32];generalize hcut:Lib.cut s [32]=c at hc hle;obtain⟨a,q,f⟩:=c;simp only at hle |-;have f0:(cutD (a,q,f)).fld 0=.str a:=rfl;have f1:(cutD (a,q,f)).fld 1=.str q:=rfl;obtain⟨v,hn,_⟩:=z78 (s:=a) (m:=65535) (by omega) (by decide);have ht:=z9s (s:=q) (by omega)
  cases hq:z35 a 65535&&z61 q with
  | false=>
    refine⟨[],z05 e1 (z06 hj (z05 (by simp) (z05 e6 (z0G rfl (z03 hc ?_)))))⟩;rw[f0,f1];refine z03 hn (z06 (l:=[.bool true]) ?_ (z0G rfl rfl))
    cases hna:z35 a 65535 with
    | false=>exact z01 rfl rfl
    | true=>
      rw[hna,Bool.true_and]at hq;rw[hq]at ht;exact z00 (by simp) (z04 ht rfl)
  | true=>
    simp only[Bool.and_eq_true]at hq;rw[hq.1]at hn;rw[hq.2]at ht;obtain⟨b,hbl,hb⟩:=zSU (c:=2) (by omega) v;obtain⟨b2,hb2,hlb⟩:=zDk (s:=q) (by omega);refine⟨b++b2++[0],z05 e1 (z06 hj (z05 (by simp) (z05 e6 (z0G rfl (z03 hc ?_)))))⟩;rw[f0,f1];exact z03 hn (z06 (l:=[.bool false]) (z00 (by simp) (z04 ht rfl)) (z05 (by simp) (z03 hb (z03 hlb (z0G (z6x (by simp only[D.s_str]; omega)) (z0G (z6x (by simp; omega)) rfl))))))
 rw[if_neg k15]
 have e15:¬((D.int k).i==15)=true:=by simpa using k15
 by_cases k16:k=16
 ·rw[if_pos k16]; subst k16;have hc:=zFS (s:=s) .unit (Nat.le_trans h z1I);unfold zOy;by_cases h30:s.length<=30
  ·have e30:decide (s.length<=30)=true:=by simpa using h30
   rw[e30,Bool.true_and]
   cases hq:s.all (fun c=>decide (32<=c.toNat)&&decide (c.toNat<=126))with
   | false=>
     rw[hq]at hc;exact⟨[],z05 e1 (z06 hj (z05 (by simp) (z05 e6 (z05 e15 (z0G rfl (z06 (l:=[.bool true]) (z00 (fun h=>by have h':(s.length:Int) > 30:=of_decide_eq_true h; omega) (z04 hc rfl)) (z0G rfl rfl)))))))⟩
   | true=>
     rw[hq]at hc;obtain⟨b,hbl,hb⟩:=zSU (c:=1) (by omega) s.length;exact⟨b++s,z05 e1 (z06 hj (z05 (by simp) (z05 e6 (z05 e15 (z0G rfl (z06 (l:=[.bool false]) (z00 (fun h=>by have h':(s.length:Int) > 30:=of_decide_eq_true h; omega) (z04 hc rfl)) (z05 (by simp) (z03 hb (z0G (z6x (by simp only[D.s_str]; omega)) rfl)))))))))⟩
  ·have e30:decide (s.length<=30)=false:=by simpa using h30
   rw[e30,Bool.false_and];exact⟨[],z05 e1 (z06 hj (z05 (by simp) (z05 e6 (z05 e15 (z0G rfl (z06 (l:=[.bool true]) (z01 (decide_eq_true (show(s.length:Int) > 30 by omega)) rfl) (z0G rfl rfl)))))))⟩
 rw[if_neg k16]
 have e16:¬((D.int k).i==16)=true:=by simpa using k16
 exact⟨[],z05 e1 (z06 hj (z05 (by simp) (z05 e6 (z05 e15 (z05 e16 rfl)))))⟩
theorem f_l3 {k:Int} {s:List UInt8} (h:s.length<=lim):∃b:List UInt8,z1c.F [.int k,.str s]=some (.pair (.str b) (.pair (.bool (z3g k s)) .unit)):=by
 have hlim:lim=1048576:=rfl
 unfold z3g
 by_cases k1:k=1
 ·subst k1; rw[if_pos rfl]; exact zTa h
 rw[if_neg k1,z6W]
 have e1:¬((D.int k).i==1)=true:=by simpa using k1
 by_cases k25:k=2\/k=5
 ·rw[if_pos k25];have ht:=z9u h;have hj:(if (D.int k).i==2 then ou 0 [.bool ((D.int k).i==2)]else ou 0 [.bool ((D.int k).i==5)]:Outc)=some (0,[.bool true]):=by
   rcases k25 with rfl | rfl <;> rfl
  cases hq:z61 s with
  | false=>
    rw[hq]at ht;exact⟨[],z05 e1 (z06 hj (z0G rfl (z03 ht (z0G rfl rfl))))⟩
  | true=>
    rw[hq]at ht;have hn:z11 s=true:=by unfold z61 at hq; simp only[Bool.and_eq_true]at hq; exact hq.2.1
    obtain⟨b,hb,hlb⟩:=zKi h hn;exact⟨b,z05 e1 (z06 hj (z0G rfl (z03 ht (z05 (by simp) (z03 hlb rfl)))))⟩
 rw[if_neg k25]
 have hj:(if (D.int k).i==2 then ou 0 [.bool ((D.int k).i==2)]else ou 0 [.bool ((D.int k).i==5)]:Outc)=some (0,[.bool false]):=by
  have h2:¬k=2:=fun h=>k25 (.inl h);have h5:¬k=5:=fun h=>k25 (.inr h);simp[h2,h5]
 by_cases k6:k=6
 ·rw[if_pos k6]; subst k6;have hn:=z7K h;have hin:=zBX (z2E s) 0 4294967295;rw[z9w (by decide)]at hin;obtain⟨b,_,hb⟩:=zIB (c:=4) (by omega) (z2E s);exact⟨b,z05 e1 (z06 hj (z05 (by simp) (z0G rfl (z03 hn (z03 hb (z03 hin rfl))))))⟩
 rw[if_neg k6]
 have e6:¬((D.int k).i==6)=true:=by simpa using k6
 by_cases k15:k=15
 ·rw[if_pos k15]; subst k15;have hsp:=z6c s 32 h;have hpm:=z6F 32 s;unfold mxOk;generalize splB 32 s=ps at hsp hpm;have hlen:(D.lst (ps.map D.str)).l.length=ps.length:=by simp
  by_cases h2:ps.length=2
  ·match ps,h2 with
   | [a,q],_=>
     have hla:=hpm a (by simp);have hlq:=hpm q (by simp);have hn:=z7K (s:=a) (by omega);have hin:=zBX (z2E a) 0 65535;rw[z9w (by decide)]at hin;have ht:=z9u (s:=q) (by omega);show ∃b:List UInt8,_=some (D.pair (.str b) (.pair (.bool (z35 a 65535&&z61 q)) .unit))
     cases hq:z35 a 65535&&z61 q with
     | false=>
       refine⟨[],z05 e1 (z06 hj (z05 (by simp) (z05 e6 (z0G rfl (z03 hsp (z06 (l:=[.bool true]) (z00 (by simp) (z01 rfl (z04 hn (z04 hin ?_)))) (z0G rfl rfl)))))))⟩
       cases hna:z35 a 65535 with
       | false=>exact z01 rfl rfl
       | true=>
         rw[hna,Bool.true_and]at hq;rw[hq]at ht;exact z00 (by simp) (z01 rfl (z04 ht rfl))
     | true=>
       simp only[Bool.and_eq_true]at hq;rw[hq.1]at hin;rw[hq.2]at ht;have hnq:z11 q=true:=by have:=hq.2; unfold z61 at this; simp only[Bool.and_eq_true]at this; exact this.2.1
       obtain⟨b,hbl,hb⟩:=zIB (c:=2) (by omega) (z2E a);obtain⟨b2,hb2,hlb⟩:=zKi (s:=q) (by omega) hnq;exact⟨b++b2,z05 e1 (z06 hj (z05 (by simp) (z05 e6 (z0G rfl (z03 hsp (z06 (l:=[.bool false]) (z00 (by simp) (z01 rfl (z04 hn (z04 hin (z00 (by simp) (z01 rfl (z04 ht rfl))))))) (z05 (by simp) (z0G rfl (z03 hn (z03 hb (z0G rfl (z03 hlb (z0G (z6x (by simp only[D.s_str]; omega)) rfl)))))))))))))⟩
  ·have hm:mxP ps=false:=by
    match ps,h2 with
    | [],_=>rfl
    | [_],_=>rfl
    | [_,_],h2=>exact absurd rfl h2
    | _::_::_::_,_=>rfl
   rw[hm];refine⟨[],z05 e1 (z06 hj (z05 (by simp) (z05 e6 (z0G rfl (z03 hsp (z06 (l:=[.bool true]) (z01 ?_ rfl) (z0G rfl rfl)))))))⟩;rw[hlen]; simp; omega
 rw[if_neg k15]
 have e15:¬((D.int k).i==15)=true:=by simpa using k15
 by_cases k16:k=16
 ·rw[if_pos k16]; subst k16;have hsm:=Nat.le_trans h z1I
  let q:UInt8->Bool:=fun c=>decide (32<=c.toNat)&&decide (c.toNat<=126)
  have hb1:=z1T [.int (IntKind.wrap .u8 (s.length:Int))];have hloop:=z38 (f:=fun l3=>
                if (decide ((gd l3 0).i<((D.str s).s.length:Int)))then
                 (if (inb (gd l3 0).i (D.str s).s.length)then
                   if (decide ((byteAt (D.str s).s (gd l3 0).i.toNat:Int)<32))then
                    ou 0 [(.bool true)]
                   else
                    ou 0 [(.bool (decide ((byteAt (D.str s).s (gd l3 0).i.toNat:Int) > 126)))]
                   else none).bind fun o4=>
                 sel2 o4.1 (if (gd o4.2 0).b then
                  ou 1 [(D.str []),(.bool false)]
                  else
                   ou 0 [(.int (IntKind.wrap .i64 ((gd l3 0).i+1)))]) fun _=>none
                else
                 ou 2 []) (l:=[.int 0]) (fun i=>[.int i]) s.length (fun i=>q (s.getD i 0)) (t1:=0) (t2:=1) (o1:=[.str [],.bool false]) (o2:=[]) rfl (by
   intro i hi;rw[z0E hi];have hb:byteAt s i=(s[i]).toNat:=z5p hi;refine z01 (by simpa using hi) (z0w (r:=(0,[.bool !(q s[i])])) (z01 (by simpa using z0B hi) ?_) (sel0 ?_))
   ·simp only[z16,D.i_int,Int.toNat_natCast,D.s_str,hb,q];by_cases hlo:((s[i]).toNat:Int)<32
    ·have:decide (32<=(s[i]).toNat)=false:=by simp; omega
     exact z01 (decide_eq_true hlo) (by rw[this]; rfl)
    ·have h1:decide (32<=(s[i]).toNat)=true:=by simp; omega
     refine z00 (fun h=>hlo (of_decide_eq_true h)) ?_;have:decide (((s[i]).toNat:Int) > 126) = !(decide ((s[i]).toNat<=126)):=by
      rw[Bool.eq_iff_iff]; simp; omega
     rw[h1,this]; rfl
   ·cases q s[i]with
    | true=>simp[z0P hi hsm]
    | false=>rfl) (by simp)
  rw[z4v s q 0]at hloop;unfold zOy
  cases hq:s.all (fun c=>decide (32<=c.toNat)&&decide (c.toNat<=126))with
  | false=>
    rw[show s.all q=false from hq]at hloop;exact⟨[],z05 e1 (z06 hj (z05 (by simp) (z05 e6 (z05 e15 (z0G rfl (z0L hloop (by simp)))))))⟩
  | true=>
    rw[show s.all q=true from hq]at hloop;refine⟨z0k [.int (IntKind.wrap .u8 (s.length:Int))]++s,z05 e1 (z06 hj (z05 (by simp) (z05 e6 (z05 e15 (z0G rfl (z0L hloop (z0G (z6x ?_) ?_)))))))⟩
    ·rw[D.s_str,hb1,List.length_singleton]; omega
    ·have:decide ((s.length:Int)<=30)=decide (s.length<=30):=by rw[Bool.eq_iff_iff]; simp; omega
     rw[D.s_str,this,Bool.and_true]; rfl
 rw[if_neg k16]
 have e16:¬((D.int k).i==16)=true:=by simpa using k16
 exact⟨[],z05 e1 (z06 hj (z05 (by simp) (z05 e6 (z05 e15 (z05 e16 rfl)))))⟩
theorem zNU {k:Int} {s:List UInt8} (h:z3g k s=true):s.length<=100:=by
 have num_len:∀{s:List UInt8} {m:Int},m<10000000000->z35 s m=true->s.length<=10:=by
  intro s m hm h;unfold z35 at h;simp only[Bool.and_eq_true,decide_eq_true_eq]at h;rw[(z7C s).1 h.1];exact zCR (k:=10) (by omega) (by omega)
 have tgt_len:∀{s:List UInt8},z61 s=true->s.length<=60:=by
  intro s h;unfold z61 z11 at h;simp only[Bool.and_eq_true,decide_eq_true_eq]at h;exact h.2.1.1
 unfold z3g at h
 split at h
 ·unfold zAR at h;simp only[Bool.and_eq_true,List.all_eq_true,decide_eq_true_eq]at h;have hs:=z9I 46 s;obtain⟨hp,h4⟩:=h;have hle:∀p∈splB 46 s,p.length<=10:=fun p hpm=>num_len (by decide) (hp p hpm);unfold lens at hs;generalize splB 46 s=ps at hs hle h4
  match ps,h4 with
  | [a,b,c,d],_=>
    have h1:=hle a (by simp);have h2:=hle b (by simp);have h3:=hle c (by simp);have h5:=hle d (by simp);simp at hs;omega
 ·split at h
  ·have:=tgt_len h; omega
  ·split at h
   ·have:=num_len (by decide) h; omega
   ·split at h
    ·unfold mxOk at h;have hs:=z9I 32 s;unfold lens at hs;unfold mxP at h;split at h
     ·rename_i a b hab;rw[hab]at hs;simp only[Bool.and_eq_true]at h;have h1:=num_len (by decide) h.1;have h2:=tgt_len h.2;simp at hs;omega
     ·cases h
    ·split at h
     ·unfold zOy at h;simp only[Bool.and_eq_true,decide_eq_true_eq]at h;omega
     ·cases h
end Go.Proofs.YtilejnnnkfjmmaaGreatDoor
namespace Go.Proofs.YtilejnnnkfjmmaaGreatDoor
open Go Go.Own
theorem zDf (n:Nat):z0k [.int (n:Int)]=[UInt8.ofNat n]:=by
 simp only[z0k,List.map_cons,List.map_nil,D.i_int,Int.toNat_natCast]
theorem zNe:∀(k u:Nat),u<10 ^ (k+1)->u<10 ^ 18->z4d (k+1) [.int u]=some (.str (Lib.decDigits u))
 | k,u,h,h18=>by
   have hp18:(10:Nat) ^ 18=1000000000000000000:=by decide
   rw[zLW];by_cases hu:u<10
   ·refine z0G (decide_eq_true (show(u:Int)<10 by omega)) ?_;rw[Lib.decDigits_one hu];have w1:IntKind.wrap .i64 (48+(u:Int))=((48+u:Nat):Int):=by rw[z0f] <;> omega
    have w2:IntKind.wrap .u8 ((48+u:Nat):Int)=((48+u:Nat):Int):=by
     have:IntKind.wrap .u8 ((48+u:Nat):Int)=((48+u:Nat):Int) % 256:=by simp[IntKind.wrap,IntKind.bits,IntKind.signed]
     rw[this]; omega
    simp only[D.i_int,w1,w2,zDf];rfl
   ·match k,h with
    | 0,h=>exact absurd (show u<10 by simpa using h) hu
    | k+1,h=>
      have hd:(u:Int).tdiv 10=((u / 10:Nat):Int):=by rw[Int.tdiv_eq_ediv_of_nonneg (by omega)]; simp
      have hm:(u:Int).tmod 10=((u % 10:Nat):Int):=by rw[Int.tmod_eq_emod_of_nonneg (by omega)]; simp
      have w0:IntKind.wrap .i64 ((u / 10:Nat):Int)=((u / 10:Nat):Int):=by rw[z0f] <;> omega
      have hpk:(10:Nat) ^ (k+1+1)=10 ^ (k+1)*10:=Nat.pow_succ 10 (k+1);have ih:=zNe k (u / 10) (by omega) (by omega);have w1:IntKind.wrap .i64 (48+((u % 10:Nat):Int))=((48+u % 10:Nat):Int):=by rw[z0f] <;> omega
      have w2:IntKind.wrap .u8 ((48+u % 10:Nat):Int)=((48+u % 10:Nat):Int):=by
       have:IntKind.wrap .u8 ((48+u % 10:Nat):Int)=((48+u % 10:Nat):Int) % 256:=by simp[IntKind.wrap,IntKind.bits,IntKind.signed]
       rw[this]; omega
      have hlen:=zCR (k:=18) (u:=u / 10) (by omega) (by omega);refine z05 (fun h=>by have h':(u:Int)<10:=of_decide_eq_true h; omega) (z0G (by decide) ?_);simp only[D.i_int,hd,hm,w0,w1,w2,zDf];refine z03 ih (z0G ?_ ?_)
      ·simp[catOk,z0c]; omega
      ·rw[z4g hu]; rfl
theorem zMa {v:Int} (h0:0<=v) (h1:v<10 ^ 18):z1Z.F [.int v]=some (.str (Lib.itoa v)):=by
 obtain⟨u,rfl⟩:=Int.eq_ofNat_of_zero_le h0
 rw[z62]
 have h18:u<10 ^ 18:=by exact_mod_cast h1
 exact zNe 39 u (Nat.lt_of_lt_of_le h18 (Nat.pow_le_pow_right (by omega) (by omega))) h18
structure Rec where
 name:List UInt8
 type:Int
 ttl:Int
 data:List UInt8
def Rec.d (r:Rec):D:=.pair (.str r.name) (.pair (.int r.type) (.pair (.int r.ttl) (.pair (.str r.data) .unit)))
structure Rec.In (B:Nat) (r:Rec):Prop where
 name:r.name.length<=B
 data:r.data.length<=B
def inP (n lo hi:Int):Bool:=decide (lo<=n)&&decide (n<=hi)
def Rec.ok (r:Rec):Bool:=z3g r.type r.data&&(z11 r.name&&inP r.ttl 0 100000)
theorem z4u (a b c:Int):z0j.F [.int a,.int b,.int c]=some (.bool (inP a b c)):=zF2 a b c
theorem z7J (a b c:Int):z0i.F [.int a,.int b,.int c]=some (.bool (inP a b c)):=zBX a b c
theorem zBW {r:Rec} (hr:r.In lim):z1f.F [r.d]=some (.bool r.ok):=by
 rw[zDG]
 have f0:r.d.fld 0=.str r.name:=rfl
 have f1:r.d.fld 1=.int r.type:=rfl
 have f2:r.d.fld 2=.int r.ttl:=rfl
 have f3:r.d.fld 3=.str r.data:=rfl
 rw[f0,f1,f2,f3]
 have hn:=zCT r.name
 have hw:=z4u r.ttl 0 100000
 obtain⟨b,hd⟩:=zRz (k:=r.type) hr.data
 unfold Rec.ok
 cases h1:z11 r.name with
 | false=>
   rw[h1]at hn;refine z06 (l:=[.bool true]) (z04 hn (z01 rfl rfl)) (z0G rfl ?_);simp
 | true=>
   rw[h1]at hn
   cases h2:inP r.ttl 0 100000 with
   | false=>
     rw[h2]at hw;refine z06 (l:=[.bool true]) (z04 hn (z00 (by simp) (z04 hw (z01 rfl rfl)))) (z0G rfl ?_);simp
   | true=>
     rw[h2]at hw;by_cases h100:(r.data.length:Int) > 100
     ·refine z06 (l:=[.bool true]) (z04 hn (z00 (by simp) (z04 hw (z00 (by simp) ?_)))) (z0G rfl ?_)
      ·rw[D.s_str,decide_eq_true h100]
      ·cases h3:z3g r.type r.data with
       | false=>rfl
       | true=>have:=zNU h3; omega
     ·refine z06 (l:=[.bool false]) (z04 hn (z00 (by simp) (z04 hw (z00 (by simp) ?_)))) (z05 (by simp) (z03 hd ?_))
      ·rw[D.s_str,decide_eq_false h100]
      ·simp
theorem z9r {r:Rec} (hr:r.In lim):z1g.F [r.d]=some (.bool r.ok):=by
 rw[zDO]
 have f0:r.d.fld 0=.str r.name:=rfl
 have f1:r.d.fld 1=.int r.type:=rfl
 have f2:r.d.fld 2=.int r.ttl:=rfl
 have f3:r.d.fld 3=.str r.data:=rfl
 rw[f0,f1,f2,f3]
 have hn:=zHJ r.name hr.name
 have hw:=z7J r.ttl 0 100000
 obtain⟨b,hd⟩:=f_l3 (k:=r.type) hr.data
 unfold Rec.ok
 refine z03 hd (z06 (l:=[.bool (z3g r.type r.data&&(z11 r.name&&inP r.ttl 0 100000))]) ?_ rfl)
 cases h1:z3g r.type r.data with
 | false=>exact z00 (by simp) rfl
 | true=>
   refine z01 rfl ?_
   cases h2:z11 r.name with
   | false=>rw[h2]at hn; exact z04 hn (z00 (by simp) rfl)
   | true=>rw[h2]at hn; exact z04 hn (z01 rfl (z04 hw (by simp)))
def told (s:List UInt8):List UInt8:=if s.isEmpty then [46]else s
def Rec.text (r:Rec):List UInt8:=(((((told r.name++[32])++Lib.itoa r.ttl)++[32])++Lib.itoa r.type)++[32])++r.data
theorem zDx {r:Rec} (h:r.ok=true):0<=r.type/\r.type<=16:=by
 unfold Rec.ok z3g at h
 simp only[Bool.and_eq_true]at h
 have h1:=h.1
 split at h1
 ·omega
 ·split at h1
  ·omega
  ·split at h1
   ·omega
   ·split at h1
    ·omega
    ·split at h1
     ·omega
     ·cases h1
structure Rec.Sizes (r:Rec):Prop where
 name:(told r.name).length<=60
 data:r.data.length<=100
 t0:0<=r.ttl
 t1:r.ttl<10 ^ 18
 k0:0<=r.type
 k1:r.type<10 ^ 18
theorem Rec.sizes {r:Rec} (h:r.ok=true):r.Sizes:=by
 have hp18:(10:Int) ^ 18=1000000000000000000:=by decide
 have ht:=zDx h
 unfold Rec.ok at h
 simp only[Bool.and_eq_true,inP,decide_eq_true_eq]at h
 have hn:=h.2.1
 unfold z11 at hn
 simp only[Bool.and_eq_true,decide_eq_true_eq]at hn
 refine⟨?_,zNU h.1,by omega,by omega,by omega,by omega⟩
 unfold told
 split
 ·simp
 ·exact hn.1
theorem Rec.text_len {r:Rec} (h:r.Sizes):r.text.length<=200:=by
 have h1:=z3U h.t0 h.t1
 have h2:=z3U h.k0 h.k1
 have h3:=h.name
 have h4:=h.data
 simp only[Rec.text,List.length_append,List.length_singleton]
 omega
theorem z72 {a b:List UInt8} (h:a.length+b.length<=100000):catOk a b=true:=by
 unfold catOk
 rw[z0c]
 exact decide_eq_true (by omega)
theorem zT7 (s:List UInt8):z7I.F [.str s]=some (.str (told s)):=by
 rw[zMu]
 unfold told
 cases s with
 | nil=>rfl
 | cons c s=>exact z05 (by simp) rfl
theorem zDl {r:Rec} (h:r.Sizes):z2Y.F [r.d]=some (.str r.text):=by
 rw[zDL]
 have f0:r.d.fld 0=.str r.name:=rfl
 have f1:r.d.fld 1=.int r.type:=rfl
 have f2:r.d.fld 2=.int r.ttl:=rfl
 have f3:r.d.fld 3=.str r.data:=rfl
 rw[f0,f1,f2,f3]
 have h1:=z3U h.t0 h.t1
 have h2:=z3U h.k0 h.k1
 have h3:=h.name
 have h4:=h.data
 refine z03 (zT7 _) (z0G (z72 ?_) (z03 (zDj h.t0 h.t1) (z0G (z72 ?_) (z0G (z72 ?_) (z03 (zDj h.k0 h.k1) (z0G (z72 ?_) (z0G (z72 ?_) (z0G (z72 ?_) rfl))))))))
 all_goals simp only[D.s_str,List.length_append,List.length_singleton]; omega
theorem zNb {r:Rec} (h:r.Sizes):z4L.F [r.d]=some (.str r.text):=by
 rw[zJp]
 have f0:r.d.fld 0=.str r.name:=rfl
 have f1:r.d.fld 1=.int r.type:=rfl
 have f2:r.d.fld 2=.int r.ttl:=rfl
 have f3:r.d.fld 3=.str r.data:=rfl
 rw[f0,f1,f2,f3]
 have h1:=z3U h.t0 h.t1
 have h2:=z3U h.k0 h.k1
 have h3:=h.name
 have h4:=h.data
 refine z06 (l:=[.str (told r.name)]) ?_ ?_
 ·unfold told
  cases r.name with
  | nil=>rfl
  | cons c s=>exact z00 (by simp) rfl
 ·refine z0G (z72 ?_) (z03 (zMa h.t0 h.t1) (z0G (z72 ?_) (z0G (z72 ?_) (z03 (zMa h.k0 h.k1) (z0G (z72 ?_) (z0G (z72 ?_) (z0G (z72 ?_) rfl)))))))
  all_goals simp only[z16,D.s_str,List.length_append,List.length_singleton]; omega
end Go.Proofs.YtilejnnnkfjmmaaGreatDoor
