/- What the functions compute, in plain words. -/
import Derived.Test.YtilejnnnkfjmmaaGreatDoorP1
import Derived.Lib.Bytealg
set_option linter.unusedSectionVars false
set_option linter.unusedVariables false
set_option linter.unusedSimpArgs false
namespace Go.Own
open Go
structure Cmp {α:Type} (c:α->α->Int):Prop where
 refl:∀x,c x x=0
 eq:∀x y,c x y=0->x=y
 trans:∀x y z,c x y<=0->c y z<=0->c x z<=0
 anti:∀x y,c x y<=0->c y x<=0->c x y=0
def lexC {α:Type} (c:α->α->Int):List α->List α->Int
 | [],[]=>0
 | [],_::_=>-1
 | _::_,[]=>1
 | x::xs,y::ys=>if c x y=0 then lexC c xs ys else c x y
theorem Cmp.lt {α:Type} {c:α->α->Int} (h:Cmp c) {x y z:α} (h1:c x y<=0) (h2:c y z<=0) (h3:c x y≠0\/c y z≠0):c x z<0:=by
 have h4:=h.trans x y z h1 h2
 by_cases h5:c x z=0
 ·have e:=h.eq x z h5;subst e;have:=h.anti x y h1 h2;have:=h.anti y x h2 h1;omega
 ·omega
theorem Cmp.lex {α:Type} {c:α->α->Int} (h:Cmp c):Cmp (lexC c) where
 refl:=by
  intro x
  induction x with
  | nil=>rfl
  | cons a x ih=>unfold lexC; rw[if_pos (h.refl a)]; exact ih
 eq:=by
  intro x
  induction x with
  | nil=>intro y hy; cases y with
    | nil=>rfl
    | cons b y=>simp[lexC]at hy
  | cons a x ih=>intro y hy; cases y with
    | nil=>simp[lexC]at hy
    | cons b y=>
      unfold lexC at hy;split at hy
      ·rename_i hab; rw[h.eq a b hab,ih y hy]
      ·rename_i hab; exact absurd hy hab
 trans:=by
  intro x
  induction x with
  | nil=>intro y z _ _; cases z <;> simp[lexC]
  | cons a x ih=>
    intro y z h1 h2
    cases y with
    | nil=>simp[lexC]at h1
    | cons b y=>
      cases z with
      | nil=>simp[lexC]at h2
      | cons d z=>
        unfold lexC at h1 h2 |-;by_cases e1:c a b=0
        ·have:=h.eq a b e1; subst this;rw[if_pos e1]at h1;by_cases e2:c a d=0
         ·rw[if_pos e2]at h2 |-; exact ih y z h1 h2
         ·rw[if_neg e2]at h2 |-; exact h2
        ·rw[if_neg e1]at h1;by_cases e2:c b d=0
         ·have:=h.eq b d e2; subst this;rw[if_neg e1]; exact h1
         ·rw[if_neg e2]at h2;have:=h.lt h1 h2 (.inl e1);rw[if_neg (by omega)]; omega
 anti:=by
  intro x
  induction x with
  | nil=>intro y h1 h2; cases y with
    | nil=>rfl
    | cons b y=>simp[lexC]at h2
  | cons a x ih=>
    intro y h1 h2
    cases y with
    | nil=>simp[lexC]at h1
    | cons b y=>
      unfold lexC at h1 h2 |-;by_cases e1:c a b=0
      ·have:=h.eq a b e1; subst this;rw[if_pos e1]at h1 h2 |-; exact ih y h1 h2
      ·rw[if_neg e1]at h1 |-;by_cases e2:c b a=0
       ·have:=h.eq b a e2; subst this; exact absurd e2 e1
       ·rw[if_neg e2]at h2; exact h.anti a b h1 h2
def intC (a b:Int):Int:=if a<b then -1 else if b<a then 1 else 0
theorem z5U:Cmp intC where
 refl:=by intro x; simp[intC]
 eq:=by
  intro x y; unfold intC; repeat' split
  all_goals omega
 trans:=by
  intro x y z; unfold intC; repeat' split
  all_goals omega
 anti:=by
  intro x y; unfold intC; repeat' split
  all_goals omega
theorem z5Q:∀a b:List UInt8,Lib.compareBytes a b=lexC (fun x y:UInt8=>intC x.toNat y.toNat) a b
 | [],[]=>rfl
 | [],_::_=>rfl
 | _::_,[]=>rfl
 | x::a,y::b=>by
   unfold Lib.compareBytes lexC intC;have ih:=z5Q a b;by_cases h1:x<y
   ·have:(x.toNat:Int)<y.toNat:=by have:=UInt8.lt_iff_toNat_lt.1 h1; omega
    simp[h1,this]
   ·by_cases h2:y<x
    ·have:(y.toNat:Int)<x.toNat:=by have:=UInt8.lt_iff_toNat_lt.1 h2; omega
     have h3:¬(x.toNat:Int)<y.toNat:=by omega
     simp[h1,h2,this,h3]
    ·have h3:¬(x.toNat:Int)<y.toNat:=fun h=>h1 (UInt8.lt_iff_toNat_lt.2 (by omega));have h4:¬(y.toNat:Int)<x.toNat:=fun h=>h2 (UInt8.lt_iff_toNat_lt.2 (by omega));rw[if_neg h1,if_neg h2,if_neg h3,if_neg h4,if_pos rfl];exact ih
theorem zPD:Cmp (fun x y:UInt8=>intC x.toNat y.toNat) where
 refl:=by intro x; exact z5U.refl _
 eq:=by intro x y h; have:=z5U.eq _ _ h; exact UInt8.toNat_inj.1 (by omega)
 trans:=by intro x y z; exact z5U.trans _ _ _
 anti:=by intro x y; exact z5U.anti _ _
theorem zEz:Cmp Lib.compareBytes:=by
 have h:=zPD.lex
 have e:Lib.compareBytes=lexC (fun x y:UInt8=>intC x.toNat y.toNat):=by funext a b; exact z5Q a b
 rw[e]; exact h
def z5i:List UInt8->List UInt8
 | []=>[]
 | c::s=>if c=46 then s else z5i s
theorem z6S:∀{s:List UInt8},s≠[]->(z5i s).length<s.length
 | [],h=>absurd rfl h
 | c::s,_=>by
   unfold z5i;split
   ·simp
   ·cases s with
    | nil=>simp[z5i]
    | cons d s=>have:=z6S (s:=d::s) (by simp); simp at this |-; omega
def bel (a b:List UInt8):Bool:=a==b||(b.isEmpty||(46::b).isSuffixOf a)
inductive Up:List UInt8->List UInt8->Prop
 | refl (a):Up a a
 | step {a b}:a≠[]->Up (z5i a) b->Up a b
theorem Up.len {a b} (h:Up a b):a=b\/b.length<a.length:=by
 induction h with
 | refl a=>exact .inl rfl
 | step h1 _ ih=>have:=z6S h1; rcases ih with rfl | ih <;> right <;> omega
theorem Up.trans {a b c} (h:Up a b) (h2:Up b c):Up a c:=by
 induction h with
 | refl a=>exact h2
 | step h1 _ ih=>exact .step h1 (ih h2)
theorem Up.anti {a b} (h:Up a b) (h2:Up b a):a=b:=by
 rcases h.len with h | h
 ·exact h
 ·rcases h2.len with h3 | h3
  ·exact h3.symm
  ·omega
theorem zSE:∀(n:Nat) (a:List UInt8),a.length<=n->Up a []
 | 0,a,h=>by cases a with
   | nil=>exact .refl _
   | cons=>simp at h
 | n+1,a,h=>by
   by_cases h0:a=[]
   ·subst h0; exact .refl _
   ·exact .step h0 (zSE n _ (by have:=z6S h0; omega))
theorem zIR:∀(x b:List UInt8),(∃y,z5i (x++46::b)=y++46::b)\/z5i (x++46::b)=b
 | [],b=>.inr (by simp[z5i])
 | c::x,b=>by
   simp only[List.cons_append];unfold z5i;split
   ·exact .inl ⟨x,rfl⟩
   ·exact zIR x b
theorem zM4:∀(n:Nat) (x b:List UInt8),x.length<=n->Up (x++46::b) b
 | n,x,b,h=>by
   refine .step (by simp) ?_;rcases zIR x b with ⟨y,hy⟩ | hy
   ·rw[hy];have hl:=z6S (s:=x++46::b) (by simp);rw[hy]at hl;simp at hl
    match n with
    | 0=>omega
    | n+1=>exact zM4 n y b (by omega)
   ·rw[hy]; exact .refl _
theorem z9c:∀(s:List UInt8),z5i s=[]\/∃x,s=x++46::z5i s
 | []=>.inl rfl
 | c::s=>by
   unfold z5i;split
   ·rename_i h; exact .inr ⟨[],by simp[h]⟩
   ·rcases z9c s with h | ⟨x,h⟩
    ·exact .inl h
    ·exact .inr ⟨c::x,by rw[List.cons_append,<- h]⟩
theorem zAh {a b:List UInt8}:bel a b=true↔Up a b:=by
 unfold bel
 simp only[Bool.or_eq_true,beq_iff_eq,List.isEmpty_iff,List.isSuffixOf_iff_suffix]
 constructor
 ·rintro(rfl | rfl | ⟨x,rfl⟩)
  ·exact .refl _
  ·exact zSE _ _ (Nat.le_refl _)
  ·exact zM4 _ x b (Nat.le_refl _)
 ·intro h
  induction h with
  | refl a=>exact .inl rfl
  | @step a b h1 _ ih=>
    rcases ih with h | h | ⟨x,h⟩
    ·rcases z9c a with h2 | ⟨x,h2⟩
     ·exact .inr (.inl (by rw[<- h,h2]))
     ·rw[h]at h2; exact .inr (.inr ⟨x,h2.symm⟩)
    ·exact .inr (.inl h)
    ·rcases z9c a with h2 | ⟨y,h2⟩
     ·rw[h2]at h; simp at h
     ·rw[<- h]at h2; exact .inr (.inr ⟨y++46::x,by rw[h2]; simp⟩)
def z7u (apex:List UInt8) (m:List UInt8->Bool):Nat->List UInt8->Option (List UInt8)->Option (List UInt8)
 | 0,_,o=>o
 | n+1,s,o=>if s≠apex/\bel s apex=true then
    (if s=[]then(if m s then some s else o)else z7u apex m n (z5i s) (if m s then some s else o))
   else o
theorem zIf {apex:List UInt8} {m:List UInt8->Bool} {s0:List UInt8}:∀(n:Nat) (s:List UInt8) (o:Option (List UInt8)),Up s0 s ->
 (∀x,o=some x->m x=true/\Up s0 x/\x≠apex/\bel x apex=true)->∀x,z7u apex m n s o=some x->m x=true/\Up s0 x/\x≠apex/\bel x apex=true
 | 0,s,o,_,ho,x,hx=>ho x hx
 | n+1,s,o,hs,ho,x,hx=>by
   unfold z7u at hx;split at hx
   ·rename_i hc;have ho':∀x,(if m s then some s else o)=some x->m x=true/\Up s0 x/\x≠apex/\bel x apex=true:=by
     intro x hx;split at hx
     ·rename_i hm; cases hx; exact⟨hm,hs,hc.1,hc.2⟩
     ·exact ho x hx
    split at hx
    ·exact ho' x hx
    ·rename_i h0;exact zIf n _ _ (hs.trans (.step h0 (.refl _))) ho' x hx
   ·exact ho x hx
theorem zM5 {apex:List UInt8} {m:List UInt8->Bool} {c:List UInt8}:∀(n:Nat) (s:List UInt8) (o:Option (List UInt8)),Up c s->(∃x,o=some x/\Up c x)->∃x,z7u apex m n s o=some x/\Up c x
 | 0,s,o,_,ho=>ho
 | n+1,s,o,hs,ho=>by
   unfold z7u;have ho':∃x,(if m s then some s else o)=some x/\Up c x:=by
    split
    ·exact⟨s,rfl,hs⟩
    ·exact ho
   split
   ·split
    ·exact ho'
    ·rename_i h0; exact zM5 n _ _ (hs.trans (.step h0 (.refl _))) ho'
   ·exact ho
theorem zQp {apex:List UInt8} {m:List UInt8->Bool} {c:List UInt8} (hm:m c=true) (hc:c≠apex) (hb:bel c apex=true) {s:List UInt8} (h:Up s c):∀(n:Nat) (o:Option (List UInt8)),s.length<n->∃x,z7u apex m n s o=some x/\Up c x:=by
 induction h with
 | refl a=>
   intro n o hn
   match n,hn with
   | n+1,hn=>
     unfold z7u;rw[if_pos ⟨hc,hb⟩,if_pos hm];split
     ·exact⟨a,rfl,.refl _⟩
     ·rename_i h0; exact zM5 n _ _ (.step h0 (.refl _)) ⟨a,rfl,.refl _⟩
 | @step a b h1 h2 ih=>
   intro n o hn
   match n,hn with
   | n+1,hn=>
     have hab:Up a b:=.step h1 h2;have hap:Up a apex:=hab.trans (zAh.1 hb);have hne:a≠apex:=by
      rintro rfl;exact hc (Up.anti (zAh.1 hb) hab)
     unfold z7u;rw[if_pos ⟨hne,zAh.2 hap⟩,if_neg h1];exact ih hm hc hb n _ (by have:=z6S h1; omega)
end Go.Own
namespace Go.Proofs.YtilejnnnkfjmmaaGreatDoor
open Go Go.Own
theorem rn_bind' {o:Outc} {k:Nat×List D->Outc} {r:Nat×List D} {R:Option D} (h:o=some r) (hk:rn (k r)=R):rn (o.bind k)=R:=by rw[h]; exact hk
theorem z7L {α:Type} {f:α->D} {xs:List α} {i:Nat} (h:i<xs.length):gd (xs.map f) i=f xs[i]:=by
 rw[z9E (by simpa using h)]; simp
theorem z4I:∀a b:List UInt8,(Op.bytesLess a b=true↔Lib.compareBytes a b=-1)/\(a=b↔Lib.compareBytes a b=0)
 | [],[]=>by simp[Op.bytesLess,Lib.compareBytes]
 | [],_::_=>by simp[Op.bytesLess,Lib.compareBytes]
 | _::_,[]=>by simp[Op.bytesLess,Lib.compareBytes]
 | a::x,b::y=>by
   have ih:=z4I x y;unfold Op.bytesLess Lib.compareBytes;by_cases h1:a<b
   ·have hne:a≠b:=by rintro rfl; exact absurd h1 (UInt8.lt_irrefl a)
    simp[h1,hne]
   ·by_cases h2:b<a
    ·have hne:a≠b:=by rintro rfl; exact absurd h2 (UInt8.lt_irrefl a)
     simp[h1,h2,hne]
    ·have he:a=b:=UInt8.le_antisymm (UInt8.not_lt.1 h2) (UInt8.not_lt.1 h1);subst he;simp only[h1,if_false,decide_false,Bool.false_or,beq_self_eq_true,Bool.true_and,List.cons.injEq,true_and];exact ih
theorem z5R (a b:List UInt8):Lib.compareBytes a b=-1\/Lib.compareBytes a b=0\/Lib.compareBytes a b=1:=by
 induction a generalizing b with
 | nil=>cases b <;> simp[Lib.compareBytes]
 | cons x a ih=>cases b with
   | nil=>simp[Lib.compareBytes]
   | cons y b=>
     unfold Lib.compareBytes;split
     ·exact .inl rfl
     ·split
      ·exact .inr (.inr rfl)
      ·exact ih b
theorem zRO {c:List UInt8->List UInt8->Int} (hc:∀a b,c a b=-1\/c a b=0\/c a b=1) (a b:List (List UInt8)):lexC c a b=-1\/lexC c a b=0\/lexC c a b=1:=by
 induction a generalizing b with
 | nil=>cases b <;> simp[lexC]
 | cons x a ih=>cases b with
   | nil=>simp[lexC]
   | cons y b=>
     unfold lexC;split
     ·exact ih b
     ·exact hc x y
def z4E (n i:Nat) (xs:List D):List D:=(List.range n).map fun k=>if k<i\/n-i<=k then gd xs (n-1-k)else gd xs k
theorem zBO {n i:Nat} {xs:List D}:(z4E n i xs).length=n:=by simp[z4E]
theorem zH9 {n i k:Nat} {xs:List D} (h:k<n):gd (z4E n i xs) k=if k<i\/n-i<=k then gd xs (n-1-k)else gd xs k:=by
 rw[z9E (by rw[zBO]; exact h)]; simp[z4E]
theorem zLz {xs:List D}:z4E xs.length 0 xs=xs:=by
 apply List.ext_getElem
 ·simp[z4E]
 ·intro k h1 h2;simp only[z4E,List.getElem_map,List.getElem_range];rw[if_neg (by omega),z9E h2]
theorem zLx {xs:List D}:z4E xs.length (xs.length / 2) xs=xs.reverse:=by
 apply List.ext_getElem
 ·simp[z4E]
 ·intro k h1 h2;have hk:k<xs.length:=by simpa using h2
  simp only[z4E,List.getElem_map,List.getElem_range,List.getElem_reverse];split
  ·rw[z9E (by omega)]
  ·have:xs.length-1-k=k:=by omega
   rw[z9E hk]; congr 1; omega
theorem zLy {xs:List D} {i:Nat} (hi:i<xs.length / 2):((z4E xs.length i xs).set i (gd (z4E xs.length i xs) (xs.length-1-i))).set (xs.length-1-i) (gd (z4E xs.length i xs) i)=z4E xs.length (i+1) xs:=by
 have ha:gd (z4E xs.length i xs) (xs.length-1-i)=gd xs (xs.length-1-i):=by rw[zH9 (by omega),if_neg (by omega)]
 have hb:gd (z4E xs.length i xs) i=gd xs i:=by rw[zH9 (by omega),if_neg (by omega)]
 rw[ha,hb]
 apply List.ext_getElem
 ·simp[z4E]
 ·intro k h1 h2;have hk:k<xs.length:=by simpa [z4E]using h2
  simp only[List.getElem_set];simp only[z4E,List.getElem_map,List.getElem_range];by_cases e1:xs.length-1-i=k
  ·rw[if_pos e1,if_pos (by omega)]; congr 1; omega
  ·rw[if_neg e1];by_cases e2:i=k
   ·rw[if_pos e2,if_pos (by omega)]; congr 1; omega
   ·rw[if_neg e2];by_cases e3:k<i\/xs.length-i<=k
    ·rw[if_pos e3,if_pos (by omega)]
    ·rw[if_neg e3,if_neg (by omega)]
theorem zKk {xs:List D} (hl:xs.length<=lim+1):z0u.F [.lst xs]=some (.pair .unit (.pair (.lst xs.reverse) .unit)):=by
 have hlim:lim=1048576:=rfl
 rw[z6j]
 have w0:IntKind.wrap .i64 ((xs.length:Int)-1)=(xs.length:Int)-1:=by rw[z0f] <;> omega
 refine z0L (z2Q (fun i (zs:List D)=>[.lst zs,.int i,.int ((xs.length:Int)-1-i)]) (xs.length / 2) (fun i=>z4E xs.length i xs) (t:=0) (o:=[.lst xs.reverse]) ?_ ?_ ?_) rfl
 ·simp only[zLz,D.l_lst,w0];congr 3
  ·simp
 ·intro i hi;have w1:IntKind.wrap .i64 ((i:Int)+1)=((i+1:Nat):Int):=by rw[z0f] <;> omega
  have w2:IntKind.wrap .i64 ((xs.length:Int)-1-i-1)=(xs.length:Int)-1-((i+1:Nat):Int):=by rw[z0f] <;> omega
  have ej:((xs.length:Int)-1-(i:Int)).toNat=xs.length-1-i:=by omega
  have hj:inb ((xs.length:Int)-1-(i:Int)) xs.length=true:=z5z (by omega) (by omega);have hst:=zLy hi;refine z01 (decide_eq_true (by simp; omega)) (z01 ?_ (z01 ?_ ?_))
  ·simp only[zFY,z16,D.i_int,D.l_lst,zBO]; exact hj
  ·simp only[z6K,z16,D.i_int,D.l_lst,zBO]; exact z0B (by omega)
  ·simp only[zFY,z6K,z16,D.i_int,D.l_lst,ej,Int.toNat_natCast,hst,w1,w2]
 ·refine z00 (fun h=>?_) ?_
  ·have h':((xs.length / 2:Nat):Int)<(xs.length:Int)-1-((xs.length / 2:Nat):Int):=of_decide_eq_true h;omega
  ·simp only[z16,zLx]
theorem zMS (a b:List UInt8):z1h.F [.str a,.str b]=some (.int (Lib.compareBytes a b)):=by
 have n1:∀s:List UInt8,z2y.F [.str s]=some (.bool false):=fun s=>by
  rw[zC8]; simp
 rw[zAK]
 refine z03 (n1 a) (z03 (n1 b) (z05 (by simp) (z05 (by simp) ?_)))
 obtain⟨h1,h2⟩:=z4I a b
 simp only[D.s_str]
 rcases z5R a b with h | h | h
 ·rw[h]; exact z0G (h1.2 h) rfl
 ·have he:=h2.2 h;subst he;have hl:Op.bytesLess a a=false:=by
   cases hq:Op.bytesLess a a with
   | false=>rfl
   | true=>rw[h1.1 hq]at h; cases h
  rw[h]; exact z05 (by rw[hl]; decide) (z05 (by simp) rfl)
 ·have hl:Op.bytesLess a b=false:=by
   cases hq:Op.bytesLess a b with
   | false=>rfl
   | true=>rw[h1.1 hq]at h; cases h
  have hne:a≠b:=fun e=>by rw[h2.1 e]at h; cases h
  rw[h]; exact z05 (by rw[hl]; decide) (z0G (by simp[hl,hne]) rfl)
theorem zBn {α:Type} {c:α->α->Int} {xs ys:List α}:∀(k:Nat),k<=xs.length->k<=ys.length->(∀i (h1:i<xs.length) (h2:i<ys.length),i<k->c xs[i] ys[i]=0)->lexC c xs ys=lexC c (xs.drop k) (ys.drop k)
 | 0,_,_,_=>by simp
 | k+1,h1,h2,h=>by
   rw[zBn k (by omega) (by omega) (fun i a b hi=>h i a b (by omega))];rw[List.drop_eq_getElem_cons (show k<xs.length by omega),List.drop_eq_getElem_cons (show k<ys.length by omega)];rw[lexC,if_pos (h k (by omega) (by omega) (by omega))]
theorem zPv {α:Type} {c:α->α->Int} {xs ys:List α} {k:Nat} (h1:k<xs.length) (h2:k<ys.length) (h:∀i (h1:i<xs.length) (h2:i<ys.length),i<k->c xs[i] ys[i]=0) (hk:c xs[k] ys[k]≠0):lexC c xs ys=c xs[k] ys[k]:=by
 rw[zBn k (by omega) (by omega) h,List.drop_eq_getElem_cons h1,List.drop_eq_getElem_cons h2,lexC,if_neg hk]
theorem zLC {α:Type} {c:α->α->Int} {xs ys:List α} (h1:ys.length<xs.length) (h:∀i (h1:i<xs.length) (h2:i<ys.length),c xs[i] ys[i]=0):lexC c xs ys=1:=by
 rw[zBn ys.length (by omega) (by omega) (fun i a b _=>h i a b),List.drop_length,List.drop_eq_getElem_cons h1]; rfl
theorem zCq {α:Type} {c:α->α->Int} {xs ys:List α} (h1:xs.length<=ys.length) (h:∀i (h1:i<xs.length) (h2:i<ys.length),c xs[i] ys[i]=0):lexC c xs ys=if xs.length<ys.length then -1 else 0:=by
 rw[zBn xs.length (by omega) (by omega) (fun i a b _=>h i a b),List.drop_length]
 by_cases h2:xs.length<ys.length
 ·rw[List.drop_eq_getElem_cons h2,if_pos h2]; rfl
 ·rw[List.drop_eq_nil_of_le (by omega),if_neg h2]; rfl
def cmpL (xs ys:List (List UInt8)):Int:=lexC Lib.compareBytes xs ys
theorem zR0 (a b:List (List UInt8)):cmpL a b=-1\/cmpL a b=0\/cmpL a b=1:=zRO z5R a b
theorem zF0:Cmp cmpL:=zEz.lex
theorem zMR {xs ys:List (List UInt8)} (hl:xs.length<=lim+1):z1D.F [.lst (xs.map .str),.lst (ys.map .str)]=some (.int (cmpL xs ys)):=by
 have hsm:xs.length<=smax:=by rw[z0c]; have hlim:lim=1048576:=rfl; omega
 rw[z6i]
 have hlx:(D.lst (xs.map D.str)).l.length=xs.length:=by simp
 have hly:(D.lst (ys.map D.str)).l.length=ys.length:=by simp
 rw[hlx,hly]
 have hcmp:∀i (h1:i<xs.length) (h2:i<ys.length),z1h.F [gd (xs.map D.str) i,gd (ys.map D.str) i]=some (.int (Lib.compareBytes xs[i] ys[i])):=fun i h1 h2=>by
  rw[z7L h1,z7L h2]; exact zMS _ _
 let p:Nat->Bool:=fun i=>decide (i<ys.length)&&(Lib.compareBytes (xs.getD i []) (ys.getD i [])==0)
 have hp0:∀i (h1:i<xs.length),p i=true->∃h2:i<ys.length,Lib.compareBytes xs[i] ys[i]=0:=by
  intro i h1 h;simp only[p,Bool.and_eq_true,decide_eq_true_eq,beq_iff_eq]at h;refine⟨h.1,?_⟩;have:=h.2
  rwa [z0E h1,z0E h.1]at this
 have key:=z65 (l:=[.int 0]) (fun i=>[.int i]) xs.length p (t1:=0) (t2:=1) (o1:=fun i=>[.int (if ys.length<=i then 1 else Lib.compareBytes (xs.getD i []) (ys.getD i []))]) (o2:=[]) (f:=fun l2=>
  if (decide ((gd l2 0).i<(xs.length:Int)))then
   if (inb (gd l2 0).i xs.length)then
   if (decide ((gd l2 0).i >= (ys.length:Int)))then
    ou 1 [(.int 1)]
   else
    if (inb (gd l2 0).i ys.length)then
    (z1h.F [(gd (D.lst (xs.map D.str)).l (gd l2 0).i.toNat),(gd (D.lst (ys.map D.str)).l (gd l2 0).i.toNat)]).bind fun r3=>
    if (r3.i != 0)then
     ou 1 [r3]
    else
     ou 0 [(.int (IntKind.wrap .i64 ((gd l2 0).i+1)))]
    else none
   else none
  else
   ou 2 []) rfl (by
  intro i hi hp;obtain⟨h2,hc⟩:=hp0 i hi hp;have:=hcmp i hi h2;rw[hc]at this;have hn:¬ys.length<=i:=by omega
  simp[hi,z0B hi,z0B h2,hn,this,z0P hi hsm]) (by
  intro i hi hp;by_cases h2:ys.length<=i
  ·simp[hi,z0B hi,h2]
  ·have h3:i<ys.length:=by omega
   have:=hcmp i hi h3;have hne:¬Lib.compareBytes xs[i] ys[i]=0:=by
    intro h;simp only[p,h3,decide_true,Bool.true_and,z0E hi,z0E h3,h]at hp;simp at hp
   simp[hi,h3,z0B hi,z0B h3,h2,this,hne]) (by simp)
 rcases key with ⟨hall,hloop⟩ | ⟨k,hk,hpk,hall,hloop⟩
 ·refine z0L hloop ?_;have hle:xs.length<=ys.length:=by
   rcases Nat.eq_zero_or_pos xs.length with h | h
   ·omega
   ·have:=(hp0 (xs.length-1) (by omega) (hall _ (by omega))).1; omega
  have hs:cmpL xs ys=if xs.length<ys.length then -1 else 0:=zCq hle (fun i h1 h2=>(hp0 i h1 (hall i h1)).2);rw[hs];by_cases h:xs.length<ys.length
  ·rw[if_pos h]; exact z0G (decide_eq_true (by omega)) rfl
  ·rw[if_neg h]; exact z05 (fun h'=>h (by have h'':(xs.length:Int)<ys.length:=of_decide_eq_true h'; omega)) rfl
 ·refine z0L hloop ?_;by_cases h2:ys.length<=k
  ·have:cmpL xs ys=1:=zLC (by omega) (fun i h1 h3=>(hp0 i h1 (hall i (by omega))).2);simp only[if_pos h2,this]; rfl
  ·have h3:k<ys.length:=by omega
   have hne:Lib.compareBytes xs[k] ys[k]≠0:=by
    intro h;simp only[p,h3,decide_true,Bool.true_and,z0E hk,z0E h3,h]at hpk;simp at hpk
   have:cmpL xs ys=Lib.compareBytes xs[k] ys[k]:=zPv hk h3 (fun i h1 h4 hi=>(hp0 i h1 (hall i hi)).2) hne;simp only[if_neg h2,this,z0E hk,z0E h3]; rfl
def cmpN (a b:List UInt8):Int:=cmpL (z1v a).reverse (z1v b).reverse
theorem cmpN_val (a b:List UInt8):cmpN a b=-1\/cmpN a b=0\/cmpN a b=1:=zR0 _ _
theorem zHI {a b:List UInt8} (ha:a.length<=lim) (hb:b.length<=lim):z3O.F [.str a,.str b]=some (.int (cmpN a b)):=by
 have hlim:lim=1048576:=rfl
 rw[zBC]
 have h1:=z89 a (by omega)
 have h2:=z89 b (by omega)
 rw[show(if a.isEmpty then []else splB 46 a)=z1v a from rfl]at h1
 rw[show(if b.isEmpty then []else splB 46 b)=z1v b from rfl]at h2
 have hla:=(z7T a).1
 have hlb:=(z7T b).1
 refine z03 h1 (z03 h2 (z03 (zKk (by simp; omega)) (z03 (zKk (by simp; omega)) ?_)))
 have f0:∀l:List (List UInt8),(D.pair .unit (.pair (.lst (l.map D.str).reverse) .unit)).fld 1=.lst (l.reverse.map D.str):=fun l=>by
  rw[<- List.map_reverse]; rfl
 rw[f0,f0]
 exact z03 (zMR (by simp; omega)) rfl
theorem zKh (ls ms:List (List UInt8)) (hl:ls.length<=lim+1) (hm:ms.length<=lim+1) (x y:D) (R:Option D) (hR:some (.int (cmpL ls.reverse ms.reverse))=R):rn ((z0d (fun l4=>
 (if (decide ((gd l4 0).i<=(((D.pair (.lst (ls.map D.str)) x).fld 0).l.length:Int)))then
     ou 0 [(.bool (decide ((gd l4 0).i<=(((D.pair (.lst (ms.map D.str)) y).fld 0).l.length:Int))))]
   else
    ou 0 [(.bool false)]).bind fun o5=>
 sel2 o5.1 (if (gd o5.2 0).b then
  if (inb (IntKind.wrap .i64 ((((D.pair (.lst (ls.map D.str)) x).fld 0).l.length:Int)-(gd l4 0).i)) ((D.pair (.lst (ls.map D.str)) x).fld 0).l.length)then
  if (inb (IntKind.wrap .i64 ((((D.pair (.lst (ms.map D.str)) y).fld 0).l.length:Int)-(gd l4 0).i)) ((D.pair (.lst (ms.map D.str)) y).fld 0).l.length)then
  if (Op.bytesLess (gd ((D.pair (.lst (ls.map D.str)) x).fld 0).l (IntKind.wrap .i64 ((((D.pair (.lst (ls.map D.str)) x).fld 0).l.length:Int)-(gd l4 0).i)).toNat).s (gd ((D.pair (.lst (ms.map D.str)) y).fld 0).l (IntKind.wrap .i64 ((((D.pair (.lst (ms.map D.str)) y).fld 0).l.length:Int)-(gd l4 0).i)).toNat).s)then
   ou 1 [(.int (-1))]
  else
   if (!(Op.bytesLess (gd ((D.pair (.lst (ls.map D.str)) x).fld 0).l (IntKind.wrap .i64 ((((D.pair (.lst (ls.map D.str)) x).fld 0).l.length:Int)-(gd l4 0).i)).toNat).s (gd ((D.pair (.lst (ms.map D.str)) y).fld 0).l (IntKind.wrap .i64 ((((D.pair (.lst (ms.map D.str)) y).fld 0).l.length:Int)-(gd l4 0).i)).toNat).s||(gd ((D.pair (.lst (ls.map D.str)) x).fld 0).l (IntKind.wrap .i64 ((((D.pair (.lst (ls.map D.str)) x).fld 0).l.length:Int)-(gd l4 0).i)).toNat).s==(gd ((D.pair (.lst (ms.map D.str)) y).fld 0).l (IntKind.wrap .i64 ((((D.pair (.lst (ms.map D.str)) y).fld 0).l.length:Int)-(gd l4 0).i)).toNat).s))then
    ou 1 [(.int 1)]
   else
    ou 0 [(.int (IntKind.wrap .i64 ((gd l4 0).i+1)))]
  else none
  else none
  else
   ou 2 []) fun _=>none) [(.int 1)]).bind fun o4=>
 sel2 o4.1 (ou 0 [(gd o4.2 0)]) fun n2=>
 sel2 n2 (if (decide ((((D.pair (.lst (ls.map D.str)) x).fld 0).l.length:Int)<(((D.pair (.lst (ms.map D.str)) y).fld 0).l.length:Int)))then
  ou 0 [(.int (-1))]
  else
   if (decide ((((D.pair (.lst (ls.map D.str)) x).fld 0).l.length:Int) > (((D.pair (.lst (ms.map D.str)) y).fld 0).l.length:Int)))then
    ou 0 [(.int 1)]
   else
    ou 0 [(.int 0)]) fun _=>none)=R:=by
 have hlim:lim=1048576:=rfl
 subst hR
 have fx:((D.pair (.lst (ls.map D.str)) x).fld 0).l=ls.map D.str:=rfl
 have fy:((D.pair (.lst (ms.map D.str)) y).fld 0).l=ms.map D.str:=rfl
 rw[fx,fy]
 simp only[List.length_map]
 let n:=min ls.length ms.length
 have hn1:n<=ls.length:=Nat.min_le_left _ _
 have hn2:n<=ms.length:=Nat.min_le_right _ _
 let c:Nat->Int:=fun i=>Lib.compareBytes (ls.reverse.getD i []) (ms.reverse.getD i [])
 have hg:∀(l:List (List UInt8)) i (hi:i<l.length),(gd (l.map D.str) (l.length-1-i)).s=l.reverse.getD i []:=by
  intro l i hi;rw[z7L (by omega),z0E (by simpa using hi) [],List.getElem_reverse]; rfl
 have key:=z65 (l:=[.int 1]) (fun i=>[.int ((i+1:Nat):Int)]) n (fun i=>c i==0) (t1:=0) (t2:=1) (o1:=fun i=>[.int (c i)]) (o2:=[]) (f:=fun l4=>
  (if (decide ((gd l4 0).i<=(ls.length:Int)))then
      ou 0 [(.bool (decide ((gd l4 0).i<=(ms.length:Int))))]
    else
     ou 0 [(.bool false)]).bind fun o5=>
  sel2 o5.1 (if (gd o5.2 0).b then
   if (inb (IntKind.wrap .i64 ((ls.length:Int)-(gd l4 0).i)) ls.length)then
   if (inb (IntKind.wrap .i64 ((ms.length:Int)-(gd l4 0).i)) ms.length)then
   if (Op.bytesLess (gd (ls.map D.str) (IntKind.wrap .i64 ((ls.length:Int)-(gd l4 0).i)).toNat).s (gd (ms.map D.str) (IntKind.wrap .i64 ((ms.length:Int)-(gd l4 0).i)).toNat).s)then
    ou 1 [(.int (-1))]
   else
    if (!(Op.bytesLess (gd (ls.map D.str) (IntKind.wrap .i64 ((ls.length:Int)-(gd l4 0).i)).toNat).s (gd (ms.map D.str) (IntKind.wrap .i64 ((ms.length:Int)-(gd l4 0).i)).toNat).s||(gd (ls.map D.str) (IntKind.wrap .i64 ((ls.length:Int)-(gd l4 0).i)).toNat).s==(gd (ms.map D.str) (IntKind.wrap .i64 ((ms.length:Int)-(gd l4 0).i)).toNat).s))then
     ou 1 [(.int 1)]
    else
     ou 0 [(.int (IntKind.wrap .i64 ((gd l4 0).i+1)))]
   else none
   else none
   else
    ou 2 []) fun _=>none) rfl ?_ ?_ ?_
 ·rcases key with ⟨hall,hloop⟩ | ⟨k,hk,hpk,hall,hloop⟩
  ·refine z0L hloop ?_;have hz:∀i (h1:i<ls.reverse.length) (h2:i<ms.reverse.length),Lib.compareBytes ls.reverse[i] ms.reverse[i]=0:=by
    intro i h1 h2;have h1':i<ls.length:=by simpa using h1
    have h2':i<ms.length:=by simpa using h2
    have:=hall i (by simp only[n]; omega);simp only[c,beq_iff_eq,z0E h1,z0E h2]at this;exact this
   by_cases h1:ls.length<ms.length
   ·have:cmpL ls.reverse ms.reverse=-1:=by
     refine(zCq (by simp; omega) hz).trans (if_pos (by simpa using h1))
    rw[this];exact z0G (decide_eq_true (by omega)) rfl
   ·refine z05 (fun h=>h1 (by have h':(ls.length:Int)<ms.length:=of_decide_eq_true h; omega)) ?_;by_cases h2:ms.length<ls.length
    ·have:cmpL ls.reverse ms.reverse=1:=zLC (by simpa using h2) hz;rw[this];exact z0G (decide_eq_true (by omega)) rfl
    ·have:cmpL ls.reverse ms.reverse=0:=by
      refine(zCq (by simp; omega) hz).trans (if_neg (by simp; omega))
     rw[this];exact z05 (fun h=>h2 (by have h':(ls.length:Int) > ms.length:=of_decide_eq_true h; omega)) rfl
  ·refine z0L hloop ?_;have h1:k<ls.reverse.length:=by simp; omega
   have h2:k<ms.reverse.length:=by simp; omega
   have hne:Lib.compareBytes ls.reverse[k] ms.reverse[k]≠0:=by
    intro h;simp only[c,z0E h1,z0E h2,h]at hpk;simp at hpk
   have:cmpL ls.reverse ms.reverse=Lib.compareBytes ls.reverse[k] ms.reverse[k]:=zPv h1 h2 (fun i a b hi=>by
    have:=hall i hi;simp only[c,beq_iff_eq,z0E a,z0E b]at this;exact this) hne
   rw[this];simp only[c,z0E h1,z0E h2]; rfl
 ·intro i hi hp;have hi1:i<ls.length:=by omega
  have hi2:i<ms.length:=by omega
  have hp':c i=0:=by simpa using hp
  obtain⟨b1,b2⟩:=z4I (ls.reverse.getD i []) (ms.reverse.getD i []);have he:=b2.2 hp';have hbl:Op.bytesLess (ls.reverse.getD i []) (ms.reverse.getD i [])=false:=by
   cases hq:Op.bytesLess (ls.reverse.getD i []) (ms.reverse.getD i [])with
   | false=>rfl
   | true=>have:=b1.1 hq; simp only[c]at hp'; omega
  have wl:IntKind.wrap .i64 ((ls.length:Int)-((i+1:Nat):Int))=((ls.length-1-i:Nat):Int):=by rw[z0f] <;> omega
  have wm:IntKind.wrap .i64 ((ms.length:Int)-((i+1:Nat):Int))=((ms.length-1-i:Nat):Int):=by rw[z0f] <;> omega
  have w1:IntKind.wrap .i64 (((i+1:Nat):Int)+1)=((i+1+1:Nat):Int):=by rw[z0f] <;> omega
  refine z0w (r:=(0,[.bool true])) (z01 (decide_eq_true (by simp; omega)) ?_) (sel0 (z01 rfl ?_))
  ·have:decide ((gd [D.int ((i+1:Nat):Int)] 0).i<=(ms.length:Int))=true:=decide_eq_true (by simp; omega);rw[this]
  ·simp only[z16,D.i_int,wl,wm,w1,Int.toNat_natCast,hg ls i hi1,hg ms i hi2];refine z01 (z0B (by omega)) (z01 (z0B (by omega)) (z00 (by rw[hbl]; decide) (z00 ?_ rfl)));rw[hbl,he]; simp
 ·intro i hi hp;have hi1:i<ls.length:=by omega
  have hi2:i<ms.length:=by omega
  have hp':c i≠0:=by simpa using hp
  obtain⟨b1,b2⟩:=z4I (ls.reverse.getD i []) (ms.reverse.getD i []);have wl:IntKind.wrap .i64 ((ls.length:Int)-((i+1:Nat):Int))=((ls.length-1-i:Nat):Int):=by rw[z0f] <;> omega
  have wm:IntKind.wrap .i64 ((ms.length:Int)-((i+1:Nat):Int))=((ms.length-1-i:Nat):Int):=by rw[z0f] <;> omega
  refine z0w (r:=(0,[.bool true])) (z01 (decide_eq_true (by simp; omega)) ?_) (sel0 (z01 rfl ?_))
  ·have:decide ((gd [D.int ((i+1:Nat):Int)] 0).i<=(ms.length:Int))=true:=decide_eq_true (by simp; omega);rw[this]
  ·simp only[z16,D.i_int,wl,wm,Int.toNat_natCast,hg ls i hi1,hg ms i hi2];refine z01 (z0B (by omega)) (z01 (z0B (by omega)) ?_);rcases z5R (ls.reverse.getD i []) (ms.reverse.getD i [])with h | h | h
   ·refine z01 (b1.2 h) ?_;simp only[c,h]
   ·exact absurd h hp'
   ·have hbl:Op.bytesLess (ls.reverse.getD i []) (ms.reverse.getD i [])=false:=by
     cases hq:Op.bytesLess (ls.reverse.getD i []) (ms.reverse.getD i [])with
     | false=>rfl
     | true=>have:=b1.1 hq; omega
    have hne:ls.reverse.getD i []≠ms.reverse.getD i []:=fun e=>hp' (b2.1 e);refine z00 (by rw[hbl]; decide) (z01 ?_ ?_)
    ·rw[hbl]; simpa using hne
    ·simp only[c,h]
 ·have hd:¬(((n+1:Nat):Int)<=(ls.length:Int)/\((n+1:Nat):Int)<=(ms.length:Int)):=by simp only[n]; omega
  by_cases h1:((n+1:Nat):Int)<=(ls.length:Int)
  ·refine z0w (r:=(0,[.bool false])) (z01 (decide_eq_true h1) ?_) (sel0 (z00 (by simp) rfl));have:decide ((gd [D.int ((n+1:Nat):Int)] 0).i<=(ms.length:Int))=false:=decide_eq_false (fun h=>hd ⟨h1,h⟩);rw[this]
  ·exact z0w (r:=(0,[.bool false])) (z00 (fun h=>h1 (of_decide_eq_true h)) rfl) (sel0 (z00 (by simp) rfl))
theorem zMY {a b:List UInt8} (ha:a.length<=lim) (hb:b.length<=lim):∃n:Int,z4c.F [.str a,.str b]=some (.int n)/\(z11 a=true->z11 b=true->n=cmpN a b):=by
 rw[zEt]
 obtain⟨ls,h1,hl1,hp1⟩:=z5Y a ha
 obtain⟨ms,h2,hl2,hp2⟩:=z5Y b hb
 refine⟨cmpL ls.reverse ms.reverse,z03 h1 (z03 h2 (zKh ls ms (by omega) (by omega) _ _ _ rfl)),fun n1 n2=>?_⟩
 rw[hp1 n1,hp2 n2]; rfl
end Go.Proofs.YtilejnnnkfjmmaaGreatDoor
namespace Go.Proofs.YtilejnnnkfjmmaaGreatDoor
open Go Go.Own
def zIl (n k:Nat):D:=.int (IntKind.wrap .u8 ((n / 2 ^ (8*k):Nat):Int))
def bigL (n:Nat):Nat->List D
 | 0=>[]
 | c+1=>zIl n c::bigL n c
theorem zEy (n:Nat):∀c,(bigL n c).length=c
 | 0=>rfl
 | c+1=>by simp[bigL,zEy n c]
def bigB (n c:Nat):List UInt8:=z0k (bigL n c)
theorem z7c (n c:Nat):(bigB n c).length=c:=by unfold bigB; rw[z1T,zEy]
theorem zIz (n k:Nat):(n:Int).fdiv (2 ^ k)=((n / 2 ^ k:Nat):Int):=by
 rw[Int.fdiv_eq_ediv_of_nonneg _ (Int.le_of_lt (Int.pow_pos (by decide)))]
 norm_cast
theorem zNZ {c:Nat} (hc:c<=4) (n:Nat):z3d.F [.int (n:Int),.int c]=some (.str (bigB n c)):=by
 rw[zDJ]
 have w0:IntKind.wrap .i64 ((c:Int)-1)=(c:Int)-1:=by rw[z0f] <;> omega
 simp only[D.i_int,w0]
 obtain⟨l,hl,hloop⟩:=zBp (f:=fun l2=>
  if (decide ((gd l2 1).i >= 0))then
   if (decide (0<=(IntKind.wrap .i64 (8*(gd l2 1).i))))then
   if (appOk 1 (gd l2 0).l ((.int (IntKind.wrap .u8 ((n:Int).fdiv (2 ^ min (IntKind.wrap .i64 (8*(gd l2 1).i)).toNat (IntKind.bits .i64)))))::([]:List D)))then
   ou 0 [(D.lst ((gd l2 0).l++((.int (IntKind.wrap .u8 ((n:Int).fdiv (2 ^ min (IntKind.wrap .i64 (8*(gd l2 1).i)).toNat (IntKind.bits .i64)))))::([]:List D)))),(.int (IntKind.wrap .i64 ((gd l2 1).i-1)))]
   else none
   else none
  else
   ou 1 [(gd l2 0)]) (l:=[.lst [],.int ((c:Int)-1)]) (fun m (zs:List D)=>[.lst zs,.int ((m:Int)-1)]) (fun m zs=>m<=4/\zs++bigL n m=bigL n c) (t:=0) (out:=fun zs=>[.lst zs]) c [] rfl ⟨hc,rfl⟩ (by
  intro m zs hz;have hzl:zs.length+(m+1)=c:=by have:=congrArg List.length hz.2; simpa [zEy]using this
  have w1:IntKind.wrap .i64 (8*(((m+1:Nat):Int)-1))=((8*m:Nat):Int):=by rw[z0f] <;> omega
  have w2:IntKind.wrap .i64 ((((m+1:Nat):Int)-1)-1)=(m:Int)-1:=by rw[z0f] <;> omega
  have hb:(D.int (IntKind.wrap .u8 ((n:Int).fdiv (2 ^ min ((8*m:Nat):Int).toNat (IntKind.bits .i64)))))=zIl n m:=by
   have:min ((8*m:Nat):Int).toNat (IntKind.bits .i64)=8*m:=by
    have:IntKind.bits .i64=64:=rfl;rw[this]; omega
   rw[this,zIz]; rfl
  refine⟨zs++[zIl n m],z01 (decide_eq_true (by simp)) (z01 ?_ (z01 ?_ ?_)),by omega,by rw[<- hz.2]; simp[bigL]⟩
  ·simp only[z6K,D.i_int,w1]; exact decide_eq_true (by omega)
  ·simp only[z16,D.l_lst,appOk,List.length_singleton];simp[z0c]; omega
  ·simp only[z16,z6K,D.i_int,D.l_lst,w1,w2,hb]) (by
  intro zs _;exact z00 (by simp) rfl)
 have:l=bigL n c:=by simpa [bigL]using hl.2
 subst this
 exact z0L hloop rfl
theorem zAm {c:Nat} (hc:c<=4) (n:Nat):z1a.F [.int (n:Int),.int c]=some (.str (bigB n c)):=by
 rw[z7V]
 have w0:IntKind.wrap .i64 ((c:Int)-1)=(c:Int)-1:=by rw[z0f] <;> omega
 simp only[D.i_int,w0]
 obtain⟨l,hl,hloop⟩:=zBp (f:=fun l2=>
  if (decide ((gd l2 2).i >= 0))then
   if (inb (gd l2 2).i (gd l2 1).l.length)then
   if (decide (0<=8))then
   ou 0 [(.int ((gd l2 0).i.fdiv (2 ^ min 8 (IntKind.bits .i64)))),(D.lst ((gd l2 1).l.set (gd l2 2).i.toNat (.int (IntKind.wrap .u8 (gd l2 0).i)))),(.int (IntKind.wrap .i64 ((gd l2 2).i-1)))]
   else none
   else none
  else
   ou 1 [(gd l2 1)]) (l:=[.int n,.lst (List.replicate ((c:Int)).toNat (.int 0)),.int ((c:Int)-1)]) (fun m (z:Int×List D)=>[.int z.1,.lst z.2,.int ((m:Int)-1)]) (fun m z=>m<=c/\z.1=((n / 2 ^ (8*(c-m)):Nat):Int)/\z.2=List.replicate m (.int 0)++bigL n (c-m)) (t:=0) (out:=fun z=>[.lst z.2]) c (n,List.replicate c (.int 0)) (by simp) (by simp[bigL]) (by
  rintro m ⟨x,zs⟩ ⟨hm,hx,hz⟩;simp only at hx hz;have w2:IntKind.wrap .i64 ((((m+1:Nat):Int)-1)-1)=(m:Int)-1:=by rw[z0f] <;> omega
  have hlen:zs.length=c:=by rw[hz]; simp[zEy]; omega
  have hcm:c-m=(c-(m+1))+1:=by omega
  refine⟨(x.fdiv (2 ^ min 8 (IntKind.bits .i64)),zs.set m (.int (IntKind.wrap .u8 x))),z01 (decide_eq_true (by simp)) (z01 ?_ (z01 (by decide) ?_)),by omega,?_,?_⟩
  ·simp only[zFY,z6K,D.i_int,D.l_lst]; exact z5z (by omega) (by omega)
  ·have e:(((m+1:Nat):Int)-1).toNat=m:=by omega
   simp only[z16,z6K,zFY,D.i_int,D.l_lst,w2,e]
  ·simp only;rw[hx,show min 8 (IntKind.bits .i64)=8 from rfl,zIz,hcm,Nat.div_div_eq_div_mul,<- Nat.pow_add,show 8*(c-(m+1))+8=8*(c-(m+1)+1) by omega]
  ·simp only;rw[hz,hx,hcm,bigL,List.replicate_succ',List.append_assoc,List.set_append_right _ _ (by simp)];simp[zIl]) (by
  intro zs _;exact z00 (by simp) rfl)
 have:l.2=bigL n c:=by simpa using hl.2.2
 refine z0G ?_ (z0L hloop ?_)
 ·exact zII (by have:lim=1048576:=rfl; omega) (by decide)
 ·rw[this]; rfl
theorem zG0 {s:List UInt8} {m:Int} (hm:m<10000000000) (h:z35 s m=true):z2E s=dv s:=by
 have h2:=z9w (s:=s) hm
 rw[h]at h2
 simp only[Bool.and_eq_true,decide_eq_true_eq]at h2
 unfold z2E at h2 |-
 split
 ·rfl
 ·rename_i hn; rw[if_neg hn]at h2; omega
def z8T (ps:List (List UInt8)):Nat->List UInt8
 | 0=>[]
 | i+1=>z8T ps i++bigB (dv (ps.getD i [])) 1
theorem zBS (ps:List (List UInt8)):∀i,(z8T ps i).length=i
 | 0=>rfl
 | i+1=>by simp[z8T,zBS ps i,z7c]
theorem zSN {s:List UInt8} (h:s.length<=lim) (hok:zAR s=true):∃b:List UInt8,z18.F [.int 1,.str s]=some (.pair (.str b) (.pair (.bool true) .unit))/\z1c.F [.int 1,.str s]=some (.pair (.str b) (.pair (.bool true) .unit))/\b=z8T (splB 46 s) (splB 46 s).length:=by
 have hlim:lim=1048576:=rfl
 rw[z5W,z6W]
 have hsp:=zMb s (by omega)
 have hsp2:=z6c s 46 h
 have hpl:=z6Y 46 s
 have hpm:=z6F 46 s
 unfold zAR at hok
 generalize splB 46 s=ps at hsp hsp2 hpl hpm hok |-
 simp only[Bool.and_eq_true,decide_eq_true_eq,List.all_eq_true]at hok
 obtain⟨hnum,h4⟩:=hok
 have hsm:ps.length<=smax:=by rw[z0c]; omega
 have hlen:(D.lst (ps.map D.str)).l.length=ps.length:=by simp
 have hcat:∀i,i<ps.length->catOk (z8T ps i) (bigB (dv (ps.getD i [])) 1)=true:=fun i hi=>by
  unfold catOk; rw[z0c,zBS,z7c]; exact decide_eq_true (by omega)
 refine⟨z8T ps ps.length,z0G rfl (z03 hsp (z0L (r:=(1,[.str (z8T ps ps.length)])) ?_ rfl)),z0G rfl (z03 hsp2 (z0L (r:=(1,[.str (z8T ps ps.length)])) ?_ ?_)),rfl⟩
 ·refine z2Q (f:=zSQ ps) (fun i (t:List UInt8)=>[.str t,.int i]) ps.length (z8T ps) rfl ?_ (z00 (by simp) rfl);intro i hi;have hpi:=hpm _ (List.getElem_mem hi);obtain⟨v,hn,hv⟩:=z78 (s:=ps[i]) (m:=255) (by omega) (by decide);have hq:=hnum _ (List.getElem_mem hi);rw[hq]at hn;have hv':=hv hq;subst hv';have hc:=hcat i hi;rw[z0E hi]at hc;refine(zCS hi hsm _).trans (z04 hn (z0w (r:=(0,[.bool false])) (z00 (by simp) (by simp[h4])) (sel0 (z00 (by simp) (z04 (zNZ (c:=1) (by omega) _) (z01 hc ?_))))));rw[z8T,z0E hi]; rfl
 ·refine z2Q (f:=zSa ps) (fun i (t:List UInt8)=>[.str t,.int i]) ps.length (z8T ps) rfl ?_ (z00 (by simp) rfl);intro i hi;have hpi:=hpm _ (List.getElem_mem hi);have hint:=z7K (s:=ps[i]) (by omega);have hq:=hnum _ (List.getElem_mem hi);have hin:=zBX (z2E ps[i]) 0 255;rw[z9w (by decide),hq]at hin;have he:=zG0 (by decide) hq;rw[he]at hint hin;have hc:=hcat i hi;rw[z0E hi]at hc;refine(zCV hi hsm _).trans (z04 hint (z04 hin (z00 (by simp) (z04 (zAm (c:=1) (by omega) _) (z01 hc ?_)))));rw[z8T,z0E hi]; rfl
 ·have:((ps.length:Int)==4)=true:=by rw[h4]; rfl
  simp only[zF9,z9h,z16,hlen,this]; rfl
theorem zTG {s:List UInt8} (h:s.length<=lim) (hn:z11 s=true):∃b:List UInt8,b.length<=2*lim/\z2X.F [.str s]=some (.str b)/\z3q.F [.str s]=some (.str (b++[0]))/\b=labB (z1v s):=by
 have hlim:lim=1048576:=rfl
 rw[z8Q,zAd]
 have hl:=z89 s (by omega)
 have hp:(if s.isEmpty then []else splB 46 s)=z1v s:=rfl
 rw[hp]at hl
 obtain⟨ls,hl2,hll,hpt⟩:=z5Y s h
 rw[hpt hn]at hl2
 obtain⟨b,hb,hloop,hbE⟩:=zJQ (ls:=z1v s) (Nat.le_trans (zCp s) (by omega)) (Nat.le_trans (z7T s).1 (by omega))
 refine⟨b,hb,z03 hl (z0L hloop rfl),z03 hl2 (z0L hloop (z0G (z6x (by simp; omega)) ?_)),hbE⟩
 simp
def datE (k:Int) (s:List UInt8):List UInt8:=if k=1 then z8T (splB 46 s) (splB 46 s).length else if k=2\/k=5 then labB (z1v s)++[0]else if k=6 then bigB (dv s) 4 else
 if k=15 then(bigB (dv (Lib.cut s [32]).1) 2++labB (z1v (Lib.cut s [32]).2.1))++[0]else bigB s.length 1++s
theorem zPL {k:Int} {s:List UInt8} (h:s.length<=lim) (hok:z3g k s=true):∃b:List UInt8,z18.F [.int k,.str s]=some (.pair (.str b) (.pair (.bool true) .unit))/\z1c.F [.int k,.str s]=some (.pair (.str b) (.pair (.bool true) .unit))/\b=datE k s:=by
 have hlim:lim=1048576:=rfl
 unfold z3g at hok
 by_cases k1:k=1
 ·subst k1; rw[if_pos rfl]at hok; 
  obtain⟨b,h1,h2,h3⟩:=zSN h hok;exact⟨b,h1,h2,by rw[h3,datE,if_pos rfl]⟩
 rw[if_neg k1]at hok
 rw[z5W,z6W]
 have e1:¬((D.int k).i==1)=true:=by simpa using k1
 by_cases k25:k=2\/k=5
 ·rw[if_pos k25]at hok;have ht:=z9s h;have ht2:=z9u h;rw[hok]at ht ht2;have hj:(if (D.int k).i==2 then ou 0 [.bool ((D.int k).i==2)]else ou 0 [.bool ((D.int k).i==5)]:Outc)=some (0,[.bool true]):=by
   rcases k25 with rfl | rfl <;> rfl
  have hn:z11 s=true:=by unfold z61 at hok; simp only[Bool.and_eq_true]at hok; exact hok.2.1
  obtain⟨b,hbl,hb1,hb2,hbE⟩:=zTG h hn;exact⟨b++[0],z05 e1 (z06 hj (z0G rfl (z03 ht (z05 (by simp) (z03 hb1 (z0G (z6x (by simp; omega)) rfl)))))),z05 e1 (z06 hj (z0G rfl (z03 ht2 (z05 (by simp) (z03 hb2 rfl))))),by rw[datE,if_neg k1,if_pos k25,hbE]⟩
 rw[if_neg k25]at hok
 have hj:(if (D.int k).i==2 then ou 0 [.bool ((D.int k).i==2)]else ou 0 [.bool ((D.int k).i==5)]:Outc)=some (0,[.bool false]):=by
  have h2:¬k=2:=fun h=>k25 (.inl h);have h5:¬k=5:=fun h=>k25 (.inr h);simp[h2,h5]
 by_cases k6:k=6
 ·rw[if_pos k6]at hok; subst k6;obtain⟨v,hn,hv⟩:=z78 (s:=s) (m:=4294967295) h (by decide);have hv':=hv hok;subst hv';rw[hok]at hn;have hi:=z7K h;have hin:=zBX (z2E s) 0 4294967295;rw[z9w (by decide),hok]at hin;rw[zG0 (by decide) hok]at hi hin;exact⟨bigB (dv s) 4,z05 e1 (z06 hj (z05 (by simp) (z0G rfl (z03 hn (z05 (by simp) (z03 (zNZ (c:=4) (by omega) _) rfl)))))),z05 e1 (z06 hj (z05 (by simp) (z0G rfl (z03 hi (z03 (zAm (c:=4) (by omega) _) (z03 hin rfl)))))),by rfl⟩
 rw[if_neg k6]at hok
 have e6:¬((D.int k).i==6)=true:=by simpa using k6
 by_cases k15:k=15
 ·rw[if_pos k15]at hok; subst k15;have hmx:=zQ1 s;rw[hok]at hmx;have hc:=zPY h;have hle:=zNS s [32];have hsp:=z6c s 32 h;unfold mxOk at hok;have h32:32∈s:=by
   by_cases h0:32∈s
   ·exact h0
   ·rw[z3n h0]at hok; simp[mxP]at hok
  obtain⟨a,q,rfl,hp⟩:=zAz h32;rw[z8W hp]at hc hmx;have hq32:32∉q:=by
   intro hq;have:=hmx.symm;simp only[Bool.and_eq_true]at this;rw[zM0 hq]at this;exact absurd this.2 (by decide)
  rw[z56 hp,z3n hq32]at hsp;have hmx':=hmx.symm;simp only[Bool.and_eq_true]at hmx';obtain⟨hna,htq⟩:=hmx';have hla:a.length<=lim:=by simp at h; omega
  have hlq:q.length<=lim:=by simp at h; omega
  obtain⟨v,hn,hv⟩:=z78 (s:=a) (m:=65535) hla (by decide);have hv':=hv hna;subst hv';rw[hna]at hn;have ht:=z9s hlq;have ht2:=z9u hlq;rw[htq]at ht ht2;have hi:=z7K (s:=a) hla;have hin:=zBX (z2E a) 0 65535;rw[z9w (by decide),hna]at hin;rw[zG0 (by decide) hna]at hi hin;have hnq:z11 q=true:=by unfold z61 at htq; simp only[Bool.and_eq_true]at htq; exact htq.2.1
  obtain⟨b,hbl,hb1,hb2,hbE⟩:=zTG hlq hnq;have f0:(cutD (a,q,true)).fld 0=.str a:=rfl;have f1:(cutD (a,q,true)).fld 1=.str q:=rfl;have hbb:=z7c (dv a) 2;refine⟨(bigB (dv a) 2++b)++[0],z05 e1 (z06 hj (z05 (by simp) (z05 e6 (z0G rfl (z03 hc ?_))))),z05 e1 (z06 hj (z05 (by simp) (z05 e6 (z0G rfl (z03 hsp (z06 (l:=[.bool false]) (z00 (by simp) (z01 rfl (z04 hi (z04 hin (z00 (by simp) (z01 rfl (z04 ht2 rfl))))))) (z05 (by simp) (z0G rfl (z03 hi (z03 (zAm (c:=2) (by omega) _) (z0G rfl (z03 hb2 (z0G (z6x (by simp; omega)) ?_))))))))))))),by rw[datE,if_neg (by decide),if_neg (by decide),if_neg (by decide),if_pos rfl,z8W hp,hbE]⟩
  ·rw[f0,f1];exact z03 hn (z06 (l:=[.bool false]) (z00 (by simp) (z04 ht rfl)) (z05 (by simp) (z03 (zNZ (c:=2) (by omega) _) (z03 hb1 (z0G (z6x (by simp only[D.s_str]; omega)) (z0G (z6x (by simp; omega)) rfl))))))
  ·simp
 rw[if_neg k15]at hok
 have e15:¬((D.int k).i==15)=true:=by simpa using k15
 by_cases k16:k=16
 ·rw[if_pos k16]at hok; subst k16;have hc:=zFS (s:=s) .unit (Nat.le_trans h z1I);have hsm:=Nat.le_trans h z1I
  let q:UInt8->Bool:=fun c=>decide (32<=c.toNat)&&decide (c.toNat<=126)
  have hb1:=z1T [.int (IntKind.wrap .u8 (s.length:Int))];have hloop:=z38 (f:=fun l3=>
                if (decide ((gd l3 0).i<((D.str s).s.length:Int)))then
                 (if (inb (gd l3 0).i (D.str s).s.length)then
                   if (decide ((byteAt (D.str s).s (gd l3 0).i.toNat:Int)<32))then
                    ou 0 [(.bool true)]
                   else
                    ou 0 [(.bool (decide ((byteAt (D.str s).s (gd l3 0).i.toNat:Int) > 126)))]
                   else none).bind fun o4=>
                 sel2 o4.1 (if (gd o4.2 0).b then
                  ou 1 [(D.str []),(.bool false)]
                  else
                   ou 0 [(.int (IntKind.wrap .i64 ((gd l3 0).i+1)))]) fun _=>none
                else
                 ou 2 []) (l:=[.int 0]) (fun i=>[.int i]) s.length (fun i=>q (s.getD i 0)) (t1:=0) (t2:=1) (o1:=[.str [],.bool false]) (o2:=[]) rfl (by
   intro i hi;rw[z0E hi];have hb:byteAt s i=(s[i]).toNat:=z5p hi;refine z01 (by simpa using hi) (z0w (r:=(0,[.bool !(q s[i])])) (z01 (by simpa using z0B hi) ?_) (sel0 ?_))
   ·simp only[z16,D.i_int,Int.toNat_natCast,D.s_str,hb,q];by_cases hlo:((s[i]).toNat:Int)<32
    ·have:decide (32<=(s[i]).toNat)=false:=by simp; omega
     exact z01 (decide_eq_true hlo) (by rw[this]; rfl)
    ·have h1:decide (32<=(s[i]).toNat)=true:=by simp; omega
     refine z00 (fun h=>hlo (of_decide_eq_true h)) ?_;have:decide (((s[i]).toNat:Int) > 126) = !(decide ((s[i]).toNat<=126)):=by
      rw[Bool.eq_iff_iff]; simp; omega
     rw[h1,this]; rfl
   ·cases q s[i]with
    | true=>simp[z0P hi hsm]
    | false=>rfl) (by simp)
  rw[z4v s q 0]at hloop;unfold zOy at hok;simp only[Bool.and_eq_true,decide_eq_true_eq]at hok;obtain⟨h30,hq⟩:=hok;rw[hq]at hc;rw[show s.all q=true from hq]at hloop;have hbb:=z7c s.length 1;have he:z0k [.int (IntKind.wrap .u8 (s.length:Int))]=bigB s.length 1:=by
   simp[bigB,bigL,zIl]
  refine⟨bigB s.length 1++s,z05 e1 (z06 hj (z05 (by simp) (z05 e6 (z05 e15 (z0G rfl (z06 (l:=[.bool false]) (z00 (fun h=>by have h':(s.length:Int) > 30:=of_decide_eq_true h; omega) (z04 hc rfl)) (z05 (by simp) (z03 (zNZ (c:=1) (by omega) _) (z0G (z6x (by simp only[D.s_str]; omega)) rfl))))))))),z05 e1 (z06 hj (z05 (by simp) (z05 e6 (z05 e15 (z0G rfl (z0L hloop (z0G (z6x ?_) ?_))))))),by rfl⟩
  ·rw[D.s_str,hb1,List.length_singleton]; omega
  ·have:decide ((s.length:Int)<=30)=true:=by simp; omega
   rw[D.s_str,this,he]; rfl
 ·rw[if_neg k16]at hok; cases hok
noncomputable def datB (k:Int) (s:List UInt8):List UInt8:=match z18.F [.int k,.str s]with
 | some (.pair (.str b) _)=>b
 | _=>[]
theorem zSX {k:Int} {s:List UInt8} (h:s.length<=lim) (hok:z3g k s=true):z18.F [.int k,.str s]=some (.pair (.str (datB k s)) (.pair (.bool true) .unit)):=by
 obtain⟨b,h1,_⟩:=zPL h hok
 unfold datB
 rw[h1]
theorem zT5 {k:Int} {s:List UInt8} (h:s.length<=lim) (hok:z3g k s=true):z1c.F [.int k,.str s]=some (.pair (.str (datB k s)) (.pair (.bool true) .unit)):=by
 obtain⟨b,h1,h2,_⟩:=zPL h hok
 unfold datB
 rw[h1]; exact h2
theorem zPK {k:Int} {s:List UInt8} (h:s.length<=lim) (hok:z3g k s=true):datB k s=datE k s:=by
 obtain⟨b,h1,_,h3⟩:=zPL h hok
 unfold datB
 rw[h1]; exact h3
end Go.Proofs.YtilejnnnkfjmmaaGreatDoor
namespace Go.Proofs.YtilejnnnkfjmmaaGreatDoor
open Go Go.Own
theorem zIs (a b:Int):z1e.F [.int a,.int b]=some (.int (intC a b)):=by
 have n1:∀s:Int,z3x.F [.int s]=some (.bool false):=fun s=>by
  rw[zGb]; simp
 rw[zDE]
 refine z03 (n1 a) (z03 (n1 b) (z05 (by simp) (z05 (by simp) ?_)))
 unfold intC
 by_cases h:a<b
 ·rw[if_pos h]; exact z0G (decide_eq_true h) rfl
 ·rw[if_neg h];refine z05 (fun h'=>h (of_decide_eq_true h')) ?_;by_cases h2:b<a
  ·rw[if_pos h2]; exact z0G (decide_eq_true h2) rfl
  ·rw[if_neg h2]; exact z05 (fun h'=>h2 (of_decide_eq_true h')) rfl
def orL:List Int->Int
 | []=>0
 | x::xs=>if x=0 then orL xs else x
theorem zNv:∀{xs:List Int},(∀i (h:i<xs.length),xs[i]=0)->orL xs=0
 | [],_=>rfl
 | x::xs,h=>by
   have h0:=h 0 (by simp);simp only[List.getElem_cons_zero]at h0;rw[orL,if_pos h0];exact zNv fun i hi=>by have:=h (i+1) (by simp; omega); simpa using this
theorem zS6:∀{xs:List Int} {k:Nat} (hk:k<xs.length),(∀i (h:i<xs.length),i<k->xs[i]=0)->xs[k]≠0->orL xs=xs[k]
 | x::xs,0,_,_,hne=>by rw[orL,if_neg (by simpa using hne)]; rfl
 | x::xs,k+1,hk,h,hne=>by
   have h0:=h 0 (by simp) (by omega);simp only[List.getElem_cons_zero]at h0;rw[orL,if_pos h0];exact zS6 (xs:=xs) (k:=k) (by simpa using hk) (fun i hi hik=>by have:=h (i+1) (by simp; omega) (by omega); simpa using this) (by simpa using hne)
theorem zPW {xs:List Int} (hl:xs.length<=lim):z4p.F [.lst (xs.map .int)]=some (.int (orL xs)):=by
 have hsm:=Nat.le_trans hl z1I
 rw[zLT]
 have hlen:(D.lst (xs.map D.int)).l.length=xs.length:=by simp
 rw[hlen]
 have key:=z65 (l:=[.int 0]) (fun i=>[.int i]) xs.length (fun i=>xs.getD i 0==0) (t1:=0) (t2:=1) (o1:=fun i=>[.int (xs.getD i 0)]) (o2:=[]) (f:=fun l1=>
  if (decide ((gd l1 0).i<(xs.length:Int)))then
   if (inb (gd l1 0).i xs.length)then
   if ((gd (D.lst (xs.map D.int)).l (gd l1 0).i.toNat).i != 0)then
    ou 1 [(gd (D.lst (xs.map D.int)).l (gd l1 0).i.toNat)]
   else
    ou 0 [(.int (IntKind.wrap .i64 ((gd l1 0).i+1)))]
   else none
  else
   ou 2 []) rfl (by
  intro i hi hp;rw[z0E hi]at hp;have:xs[i]=0:=by simpa using hp
  simp[hi,z0B hi,z7L hi,this,z0P hi hsm]) (by
  intro i hi hp;rw[z0E hi]at hp;have:¬xs[i]=0:=by simpa using hp
  simp[hi,z0B hi,z7L hi,this]) (by simp)
 rcases key with ⟨hall,hloop⟩ | ⟨k,hk,hpk,hall,hloop⟩
 ·refine z0L hloop ?_;rw[zNv (fun i hi=>by have:=hall i hi; rw[z0E hi]at this; simpa using this)]; rfl
 ·refine z0L hloop ?_;rw[z0E hk]at hpk;have:orL xs=xs[k]:=zS6 hk (fun i hi hik=>by have:=hall i hik; rw[z0E hi]at this; simpa using this) (by simpa using hpk);rw[this,z0E hk]; rfl
theorem orL2 (x y:Int):orL [x,y]=if x=0 then y else x:=by
 simp only[orL]; split
 ·split <;> simp_all
 ·rfl
theorem orL3 (x y z:Int):orL [x,y,z]=if x=0 then(if y=0 then z else y)else x:=by
 simp only[orL]; split
 ·split
  ·split <;> simp_all
  ·rfl
 ·rfl
def cmpK (a b:Rec):Int:=orL [cmpN a.name b.name,intC a.type b.type]
theorem zIt {a b:Rec} (ha:a.In lim) (hb:b.In lim):z3h.F [a.d,b.d]=some (.int (cmpK a b)):=by
 rw[zCB]
 exact z03 (zHI ha.name hb.name) (z03 (zIs a.type b.type) (z03 (zPW (xs:=[cmpN a.name b.name,intC a.type b.type]) (Nat.le_of_ble_eq_true rfl)) rfl))
noncomputable def datX (k:Int) (s:List UInt8):List UInt8:=if z3g k s=true then datB k s else []
theorem zFT {k:Int} {s:List UInt8} (h:s.length<=lim):z3e.F [.int k,.str s]=some (.str (datX k s)):=by
 rw[zEm]
 unfold datX
 by_cases hok:z3g k s=true
 ·rw[if_pos hok];exact z03 (zSX h hok) (z05 (by simp) rfl)
 ·rw[if_neg hok];obtain⟨b,hb⟩:=zRz (k:=k) h;rw[show z3g k s=false by simpa using hok]at hb;exact z03 hb (z0G rfl rfl)
noncomputable def cmpR (a b:Rec):Int:=orL [cmpK a b,Lib.compareBytes (datX a.type a.data) (datX b.type b.data),intC a.ttl b.ttl]
theorem zKm (a b:List UInt8):z3J.F [.str a,.str b]=some (.int (Lib.compareBytes a b)):=by
 rw[show z3J.F=zNR from by unfold z3J zF1; rfl]
 rfl
theorem z8t {a b:Rec} (ha:a.In lim) (hb:b.In lim):z10.F [a.d,b.d]=some (.int (cmpR a b)):=by
 rw[z9e]
 exact z03 (zIt ha hb) (z03 (zFT ha.data) (z03 (zFT hb.data) (z03 (zKm _ _) (z03 (zIs a.ttl b.ttl) (z03 (zPW (xs:=[cmpK a b,Lib.compareBytes (datX a.type a.data) (datX b.type b.data),intC a.ttl b.ttl]) (Nat.le_of_ble_eq_true rfl)) rfl)))))
theorem z9t (b:Bool):z4K.F [.bool b]=some (.int (if b then -1 else 1)):=by
 rw[zJo]; cases b <;> rfl
theorem zLB {x y:Int} (h:x≠y):(if decide (x<y)then(-1:Int)else 1)=intC x y:=by
 unfold intC
 by_cases h1:x<y
 ·simp[h1]
 ·have:y<x:=by omega
  simp[h1,this]
theorem zMj {x y:List UInt8} (h:x≠y):(if Op.bytesLess x y then(-1:Int)else 1)=Lib.compareBytes x y:=by
 obtain⟨h1,h2⟩:=z4I x y
 rcases z5R x y with h3 | h3 | h3
 ·rw[if_pos (h1.2 h3),h3]
 ·exact absurd (h2.2 h3) h
 ·rw[if_neg (fun e=>by have:=h1.1 e; omega),h3]
theorem zFU {a b:Rec} (ha:a.In lim) (hb:b.In lim):∃n:Int,z19.F [a.d,b.d]=some (.int n)/\(a.ok=true->b.ok=true->n=cmpR a b):=by
 rw[zEv]
 have f0:a.d.fld 0=.str a.name:=rfl
 have f1:a.d.fld 1=.int a.type:=rfl
 have f2:a.d.fld 2=.int a.ttl:=rfl
 have f3:a.d.fld 3=.str a.data:=rfl
 have g0:b.d.fld 0=.str b.name:=rfl
 have g1:b.d.fld 1=.int b.type:=rfl
 have g2:b.d.fld 2=.int b.ttl:=rfl
 have g3:b.d.fld 3=.str b.data:=rfl
 rw[f0,f1,f2,f3,g0,g1,g2,g3]
 obtain⟨m,hm,hmE⟩:=zMY ha.name hb.name
 by_cases hok:a.ok=true/\b.ok=true
 ·obtain⟨oka,okb⟩:=hok;have ha':=oka;have hb':=okb;unfold Rec.ok at ha' hb';simp only[Bool.and_eq_true]at ha' hb';have hmE':=hmE ha'.2.1 hb'.2.1;subst hmE';have ea:datX a.type a.data=datB a.type a.data:=by unfold datX; rw[if_pos ha'.1]
  have eb:datX b.type b.data=datB b.type b.data:=by unfold datX; rw[if_pos hb'.1]
  have hK:cmpK a b=if cmpN a.name b.name=0 then intC a.type b.type else cmpN a.name b.name:=orL2 _ _;have hR:cmpR a b=if cmpK a b=0 then(if Lib.compareBytes (datB a.type a.data) (datB b.type b.data)=0 then intC a.ttl b.ttl else Lib.compareBytes (datB a.type a.data) (datB b.type b.data))else cmpK a b:=by
   have:=orL3 (cmpK a b) (Lib.compareBytes (datX a.type a.data) (datX b.type b.data)) (intC a.ttl b.ttl);rw[ea,eb]at this;rw[<- this,cmpR,ea,eb]
  refine⟨cmpR a b,z03 hm ?_,fun _ _=>rfl⟩;by_cases h1:cmpN a.name b.name=0
  ·rw[if_pos h1]at hK;refine z05 (by simp[h1]) (z03 (zT5 ha.data ha'.1) (z03 (zT5 hb.data hb'.1) ?_));by_cases h2:a.type=b.type
   ·have:intC a.type b.type=0:=by rw[h2]; exact z5U.refl _
    rw[if_pos (hK.trans this)]at hR;refine z05 (by simp[h2]) ?_;by_cases h3:datB a.type a.data=datB b.type b.data
    ·rw[if_pos ((z4I _ _).2.1 h3)]at hR;refine z05 (by simp[h3]) ?_;rw[hR];by_cases h4:a.ttl=b.ttl
     ·have:intC a.ttl b.ttl=0:=by rw[h4]; exact z5U.refl _
      rw[this];exact z05 (by simp[h4]) rfl
     ·refine z0G (by simpa using h4) (z03 (z9t _) ?_);rw[<- zLB h4]; rfl
    ·have:Lib.compareBytes (datB a.type a.data) (datB b.type b.data)≠0:=fun h=>h3 ((z4I _ _).2.2 h);rw[if_neg this]at hR;refine z0G (by simpa using h3) (z03 (z9t _) ?_);have e1:((D.pair (.str (datB a.type a.data)) (.pair (.bool true) .unit)).fld 0).s=datB a.type a.data:=rfl;have e2:((D.pair (.str (datB b.type b.data)) (.pair (.bool true) .unit)).fld 0).s=datB b.type b.data:=rfl;rw[e1,e2,zMj h3,hR]; rfl
   ·have:intC a.type b.type≠0:=fun h=>h2 (z5U.eq _ _ h);rw[if_neg (by rw[hK]; exact this),hK]at hR;refine z0G (by simpa using h2) (z03 (z9t _) ?_);rw[hR,<- zLB h2]; rfl
  ·rw[if_neg h1]at hK;rw[if_neg (by rw[hK]; exact h1),hK]at hR;rw[hR];exact z0G (by simpa using h1) rfl
 ·have hc:∀n:Int,a.ok=true->b.ok=true->n=cmpR a b:=fun n h1 h2=>absurd ⟨h1,h2⟩ hok;obtain⟨x,hx⟩:=f_l3 (k:=a.type) ha.data;obtain⟨y,hy⟩:=f_l3 (k:=b.type) hb.data;by_cases h1:m=0
  ·by_cases h2:a.type=b.type
   ·by_cases h3:x=y
    ·by_cases h4:a.ttl=b.ttl
     ·exact⟨0,z03 hm (z05 (by simp[h1]) (z03 hx (z03 hy (z05 (by simp[h2]) (z05 (by rw[h3]; simp) (z05 (by simp[h4]) rfl)))))),hc _⟩
     ·exact⟨_,z03 hm (z05 (by simp[h1]) (z03 hx (z03 hy (z05 (by simp[h2]) (z05 (by rw[h3]; simp) (z0G (by simpa using h4) (z03 (z9t _) rfl))))))),hc _⟩
    ·exact⟨_,z03 hm (z05 (by simp[h1]) (z03 hx (z03 hy (z05 (by simp[h2]) (z0G (by simpa using h3) (z03 (z9t _) rfl)))))),hc _⟩
   ·exact⟨_,z03 hm (z05 (by simp[h1]) (z03 hx (z03 hy (z0G (by simpa using h2) (z03 (z9t _) rfl))))),hc _⟩
  ·exact⟨m,z03 hm (z0G (by simpa using h1) rfl),hc _⟩
def Rec.nul:Rec:=⟨[],0,0,[]⟩
theorem z5A {xs:List Rec} {i:Nat} (hi:i<xs.length):gd (xs.map Rec.d) i=xs[i].d:=z7L hi
noncomputable def upAt (xs:List Rec) (i:Nat):Bool:=(xs.getD i Rec.nul).ok&&(i==0||decide (cmpR (xs.getD (i-1) Rec.nul) (xs.getD i Rec.nul)<0))
noncomputable def z7p (xs:List Rec):Bool:=allN xs.length (upAt xs)
theorem zMQ {xs:List Rec} (hl:xs.length<=lim) (hx:∀x∈xs,x.In lim):z4V.F [.lst (xs.map Rec.d)]=some (.bool (z7p xs)):=by
 have hsm:=Nat.le_trans hl z1I
 rw[zEj]
 have hlen:(D.lst (xs.map Rec.d)).l.length=xs.length:=by simp
 rw[hlen]
 refine z0L (z38 (fun i=>[.int i]) xs.length (upAt xs) (t1:=0) (t2:=1) (o1:=[]) (o2:=[]) rfl ?_ ?_) ?_
 ·intro i hi;have hg:gd (D.lst (xs.map Rec.d)).l i=xs[i].d:=z5A hi;have h1:=zBW (hx _ (List.getElem_mem hi));refine z01 (by simpa using hi) (z01 (by simpa using z0B hi) ?_);have e0:(gd [D.int (i:Int)] 0).i.toNat=i:=by simp
  have e1:(gd [D.int (i:Int)] 0).i=i:=rfl;rw[e0,e1,hg,z0P hi hsm];refine z0w (r:=(0,[.bool !(upAt xs i)])) ?_ ?_
  ·unfold upAt;rw[z0E hi]
   cases hk:xs[i].ok with
   | false=>rw[hk]at h1; exact z04 h1 (z01 rfl rfl)
   | true=>
     rw[hk]at h1;refine z04 h1 (z00 (by simp) ?_);by_cases h0:i=0
     ·subst h0; exact z00 (by simp) rfl
     ·have w:IntKind.wrap .i64 ((i:Int)-1)=((i-1:Nat):Int):=by rw[z0c]at hsm; rw[z0f] <;> omega
      have hi1:i-1<xs.length:=by omega
      have hc:=z8t (hx _ (List.getElem_mem hi1)) (hx _ (List.getElem_mem hi));refine z01 (decide_eq_true (by omega)) (z01 (by rw[w]; exact z0B hi1) ?_);rw[w,Int.toNat_natCast,show(D.lst (xs.map Rec.d)).l=xs.map Rec.d from rfl,z5A hi1];refine z04 hc ?_;rw[z0E hi1];have:decide ((D.int (cmpR xs[i-1] xs[i])).i >= 0) = !(decide (cmpR xs[i-1] xs[i]<0)):=by
       rw[Bool.eq_iff_iff]; simp
      rw[this];have:(i==0)=false:=by simpa using h0
      rw[this]; simp
  ·cases upAt xs i <;> simp
 ·simp
 ·unfold z7p
  cases allN xs.length (upAt xs) <;> simp
theorem zRC {xs:List Rec} (hl:xs.length<=lim) (hx:∀x∈xs,x.In lim):z5y.F [.lst (xs.map Rec.d)]=some (.bool (z7p xs&&decide (xs.length<=40))):=by
 have hsm:=Nat.le_trans hl z1I
 rw[zJs]
 have hlen:(D.lst (xs.map Rec.d)).l.length=xs.length:=by simp
 rw[hlen]
 -- what the reference compares
 have hcs:∀i,i<xs.length->∃n:Int,z19.F [(xs.getD (i-1) Rec.nul).d,(xs.getD i Rec.nul).d]=some (.int n)/\((xs.getD (i-1) Rec.nul).ok=true->(xs.getD i Rec.nul).ok=true->n=cmpR (xs.getD (i-1) Rec.nul) (xs.getD i Rec.nul)):=by
  intro i hi;have hi1:i-1<xs.length:=by omega
  rw[z0E hi,z0E hi1];exact zFU (hx _ (List.getElem_mem hi1)) (hx _ (List.getElem_mem hi))
 let cS:Nat->Int:=fun i=>match z19.F [(xs.getD (i-1) Rec.nul).d,(xs.getD i Rec.nul).d]with
  | some (.int n)=>n
  | _=>0
 have hcS:∀i,i<xs.length->z19.F [(xs.getD (i-1) Rec.nul).d,(xs.getD i Rec.nul).d]=some (.int (cS i))/\((xs.getD (i-1) Rec.nul).ok=true->(xs.getD i Rec.nul).ok=true->cS i=cmpR (xs.getD (i-1) Rec.nul) (xs.getD i Rec.nul)):=by
  intro i hi;obtain⟨n,h1,h2⟩:=hcs i hi;have:cS i=n:=by simp only[cS,h1]
  rw[this]; exact⟨h1,h2⟩
 let up:Nat->Bool:=fun i=>(xs.getD i Rec.nul).ok&&(i==0||decide (cS i<0))
 have hup:allN xs.length up=z7p xs:=by
  unfold z7p;rw[Bool.eq_iff_iff,z1S,z1S];constructor
  ·intro h i hi;have h1:=h i hi;simp only[up,upAt,Bool.and_eq_true,Bool.or_eq_true,beq_iff_eq,decide_eq_true_eq]at h1 |-;refine⟨h1.1,h1.2.imp id fun h2=>?_⟩;by_cases h0:i=0
   ·subst h0;rw[<- (hcS 0 hi).2 h1.1 h1.1]; exact h2
   ·have h3:=h (i-1) (by omega);simp only[up,Bool.and_eq_true]at h3;rw[<- (hcS i hi).2 h3.1 h1.1]; exact h2
  ·intro h i hi;have h1:=h i hi;simp only[up,upAt,Bool.and_eq_true,Bool.or_eq_true,beq_iff_eq,decide_eq_true_eq]at h1 |-;refine⟨h1.1,h1.2.imp id fun h2=>?_⟩;by_cases h0:i=0
   ·subst h0;rw[(hcS 0 hi).2 h1.1 h1.1]; exact h2
   ·have h3:=h (i-1) (by omega);simp only[upAt,Bool.and_eq_true]at h3;rw[(hcS i hi).2 h3.1 h1.1]; exact h2
 refine z0L (z38 (fun i=>[.int i]) xs.length up (t1:=0) (t2:=1) (o1:=[]) (o2:=[]) rfl ?_ ?_) ?_
 ·intro i hi;have hg:gd (D.lst (xs.map Rec.d)).l i=xs[i].d:=z5A hi;have h1:=z9r (hx _ (List.getElem_mem hi));refine z01 (by simpa using hi) (z01 (by simpa using z0B hi) ?_);have e0:(gd [D.int (i:Int)] 0).i.toNat=i:=by simp
  have e1:(gd [D.int (i:Int)] 0).i=i:=rfl;rw[e0,e1,hg,z0P hi hsm];refine z0w (r:=(0,[.bool !(up i)])) ?_ ?_
  ·simp only[up];have hc:=(hcS i hi).1;rw[z0E hi]at hc |-
   cases hk:xs[i].ok with
   | false=>rw[hk]at h1; exact z04 h1 (z01 rfl rfl)
   | true=>
     rw[hk]at h1;refine z04 h1 (z00 (by simp) ?_);by_cases h0:i=0
     ·subst h0; exact z00 (by simp) rfl
     ·have w:IntKind.wrap .i64 ((i:Int)-1)=((i-1:Nat):Int):=by rw[z0c]at hsm; rw[z0f] <;> omega
      have hi1:i-1<xs.length:=by omega
      rw[z0E hi1]at hc;refine z01 (decide_eq_true (by omega)) (z01 (by rw[w]; exact z0B hi1) ?_);rw[w,Int.toNat_natCast,show(D.lst (xs.map Rec.d)).l=xs.map Rec.d from rfl,z5A hi1];refine z04 hc ?_;have:decide ((D.int (cS i)).i >= 0) = !(decide (cS i<0)):=by
       rw[Bool.eq_iff_iff]; simp
      rw[this];have:(i==0)=false:=by simpa using h0
      rw[this]; simp
  ·cases up i <;> simp
 ·simp
 ·rw[hup];have:decide ((xs.length:Int)<=40)=decide (xs.length<=40):=by rw[Bool.eq_iff_iff]; simp; omega
  cases z7p xs <;> simp[this]
end Go.Proofs.YtilejnnnkfjmmaaGreatDoor
namespace Go.Proofs.YtilejnnnkfjmmaaGreatDoor
open Go Go.Own
theorem zFy {α:Type} {f:α->D} {c:D->Option D} {xs:List α} {p:α->Bool} (hl:xs.length<=smax) (hc:∀x∈xs,c (f x)=some (.bool (p x))) :
 ∃n:Int,rn ((z0d (fun l2=>
  if (decide ((gd l2 0).i<((D.lst (xs.map f)).l.length:Int)))then
   if (inb (gd l2 0).i (D.lst (xs.map f)).l.length)then
   (c (gd (D.lst (xs.map f)).l (gd l2 0).i.toNat)).bind fun r3=>
   if r3.b then
    ou 1 [(gd l2 0)]
   else
    ou 0 [(.int (IntKind.wrap .i64 ((gd l2 0).i+1)))]
   else none
  else
   ou 2 []) [(.int 0)]).bind fun o2=>
  sel2 o2.1 (ou 0 [(gd o2.2 0)]) fun n2=>
  sel2 n2 (ou 0 [(.int (-1))]) fun _=>none)=some (.int n)/\decide (n >= 0)=xs.any p:=by
 have hlen:(D.lst (xs.map f)).l.length=xs.length:=by simp
 rw[hlen]
 have key:∃r,rn ((z0d (fun l2=>
  if (decide ((gd l2 0).i<(xs.length:Int)))then
   if (inb (gd l2 0).i xs.length)then
   (c (gd (D.lst (xs.map f)).l (gd l2 0).i.toNat)).bind fun r3=>
   if r3.b then
    ou 1 [(gd l2 0)]
   else
    ou 0 [(.int (IntKind.wrap .i64 ((gd l2 0).i+1)))]
   else none
  else
   ou 2 []) [(.int 0)]).bind fun o2=>
  sel2 o2.1 (ou 0 [(gd o2.2 0)]) fun n2=>
  sel2 n2 (ou 0 [(.int (-1))]) fun _=>none)=some r/\∃n:Int,r=.int n/\decide (n >= 0)=xs.any p:=by
  cases xs with
  | nil=>exact⟨_,by rw[z1B (t:=1) (l':=[]) (by simp)]; rfl,-1,rfl,rfl⟩
  | cons x0 xs'=>
    refine zJ2 (fun i=>[.int i]) (x0::xs').length (fun i=>!(p ((x0::xs').getD i x0))) (t1:=0) (t2:=1) (o1:=fun i=>[.int i]) (o2:=[]) rfl ?_ ?_ ?_ ?_ ?_
    ·intro i hi h;rw[z0E hi]at h;have:=hc _ (List.getElem_mem hi);rw[show p (x0::xs')[i]=false by simpa using h]at this;refine z01 (decide_eq_true (show(i:Int)<((x0::xs').length:Int) by omega)) (z01 (by simpa using z0B hi) ?_);have e0:(gd [D.int (i:Int)] 0).i.toNat=i:=by simp
     have e1:(gd [D.int (i:Int)] 0).i=i:=rfl;rw[e0,e1,z0P hi hl,show(D.lst ((x0::xs').map f)).l=(x0::xs').map f from rfl,z7L hi];exact z04 this (z00 (by simp) rfl)
    ·intro i hi h;rw[z0E hi]at h;have:=hc _ (List.getElem_mem hi);rw[show p (x0::xs')[i]=true by simpa using h]at this;refine z01 (decide_eq_true (show(i:Int)<((x0::xs').length:Int) by omega)) (z01 (by simpa using z0B hi) ?_);have e0:(gd [D.int (i:Int)] 0).i.toNat=i:=by simp
     rw[e0,show(D.lst ((x0::xs').map f)).l=(x0::xs').map f from rfl,z7L hi];exact z04 this (z01 rfl rfl)
    ·exact z00 (by simp) rfl
    ·intro hall;refine⟨_,rfl,-1,rfl,?_⟩;have:(x0::xs').any p=false:=by
      rw[List.any_eq_false];intro x hx;obtain⟨i,hi,rfl⟩:=List.getElem_of_mem hx;have:=hall i hi;rw[z0E hi]at this;simpa using this
     rw[this]; rfl
    ·intro j hj hp' _;refine⟨_,rfl,j,rfl,?_⟩;rw[z0E hj]at hp';have:(x0::xs').any p=true:=by
      rw[List.any_eq_true];exact⟨_,List.getElem_mem hj,by simpa using hp'⟩
     rw[this]; simp
 obtain⟨r,h1,n,rfl,h2⟩:=key
 exact⟨n,h1,h2⟩
theorem zQj {a l:List UInt8}:(l.isSuffixOf a)=(decide (l.length<=a.length)&&(a.drop (a.length-l.length)==l)):=by
 rw[Bool.eq_iff_iff,List.isSuffixOf_iff_suffix]
 simp only[Bool.and_eq_true,decide_eq_true_eq,beq_iff_eq]
 constructor
 ·intro h; exact⟨h.length_le,(List.suffix_iff_eq_drop.1 h).symm⟩
 ·rintro⟨_,h⟩; rw[<- h]; exact List.drop_suffix _ _
theorem zMW {a l:List UInt8} (ha:a.length<=lim) (hb:l.length<=lim+1):z3T.F [.str a,.str l]=some (.bool (l.isSuffixOf a)):=by
 have hlim:lim=1048576:=rfl
 rw[zBH]
 have:z14.F [.str a,.str l]=some (.bool (l.isSuffixOf a)):=by
  rw[z6J,zQj];by_cases h:l.length<=a.length
  ·have w:IntKind.wrap .i64 ((a.length:Int)-(l.length:Int))=((a.length-l.length:Nat):Int):=by rw[z0f] <;> omega
   refine z06 (z01 (decide_eq_true (by simp; omega)) (z01 ?_ rfl)) ?_
   ·simp only[D.s_str,w,slOk]; simp
   ·simp only[D.s_str,w,Int.toNat_natCast,List.take_length,h,decide_true,Bool.true_and]; rfl
  ·refine z06 (z00 (fun h'=>h ?_) rfl) ?_
   ·have h'':(a.length:Int) >= (l.length:Int):=of_decide_eq_true h';omega
   ·simp only[h,decide_false,Bool.false_and]; rfl
 exact z03 this rfl
theorem zKf {a b:List UInt8} (ha:a.length<=lim) (hb:b.length<=lim):z3o.F [.str a,.str b]=some (.bool (bel a b)):=by
 have hlim:lim=1048576:=rfl
 rw[zHs]
 refine z06 (l:=[.bool (bel a b)]) ?_ rfl
 unfold bel
 simp only[D.s_str]
 by_cases h1:a=b
 ·exact z01 (by simpa using h1) (by simp[h1])
 ·have e1:(a==b)=false:=by simpa using h1
  refine z00 (by simpa using h1) ?_;by_cases h2:b=[]
  ·exact z01 (by simpa using h2) (by simp[h2])
  ·have e2:b.isEmpty=false:=by cases b <;> simp_all
   refine z00 (by simpa using h2) (z01 (by simp[catOk,z0c]; omega) (z04 (zMW (l:=[46]++b) ha (by simp; omega)) ?_));simp[e1,e2]
theorem zKg {a b:List UInt8} (ha:a.length<=lim) (hb:b.length<=lim):z22.F [.str a,.str b]=some (.bool (bel a b)):=by
 have hlim:lim=1048576:=rfl
 rw[zHz]
 refine z06 (l:=[.bool (bel a b)]) ?_ rfl
 unfold bel
 simp only[D.s_str]
 by_cases h2:b=[]
 ·exact z01 (by simpa using h2) (by simp[h2])
 ·have e2:b.isEmpty=false:=by cases b <;> simp_all
  refine z00 (by simpa using h2) ?_;by_cases h1:a=b
  ·exact z01 (by simpa using h1) (by simp[h1])
  ·have e1:(a==b)=false:=by simpa using h1
   refine z00 (by simpa using h1) ?_;rw[e1,e2,Bool.false_or,Bool.false_or,zQj];have w:IntKind.wrap .i64 ((a.length:Int)-(b.length:Int))=(a.length:Int)-(b.length:Int):=by rw[z0f] <;> omega
   simp only[w];by_cases h:b.length<a.length
   ·have w2:IntKind.wrap .i64 ((a.length:Int)-(b.length:Int)-1)=((a.length-b.length-1:Nat):Int):=by rw[z0f] <;> omega
    have en:((a.length:Int)-(b.length:Int)).toNat=a.length-b.length:=by omega
    have hd:a.drop (a.length-b.length-1)=a[a.length-b.length-1]'(by omega)::a.drop (a.length-b.length):=by
     rw[List.drop_eq_getElem_cons (show a.length-b.length-1<a.length by omega)];congr 2; omega
    have hle:decide ((46::b).length<=a.length)=true:=decide_eq_true (by simp; omega);rw[hle,Bool.true_and,show a.length-(46::b).length=a.length-b.length-1 by simp; omega,hd];refine z01 (decide_eq_true (by omega)) (z01 (by simp[slOk]; omega) ?_);rw[en,Int.toNat_natCast,List.take_length];by_cases h3:a.drop (a.length-b.length)=b
    ·refine z01 (by simpa using h3) (z01 (by rw[w2]; exact z0B (by omega)) ?_);rw[w2,Int.toNat_natCast,z5p (show a.length-b.length-1<a.length by omega)];generalize a[a.length-b.length-1]'(by omega)=c;have:((c.toNat:Int)==46)=(c::a.drop (a.length-b.length)==46::b):=by
      rw[Bool.eq_iff_iff];simp only[beq_iff_eq,List.cons.injEq,h3,and_true];constructor
      ·intro h; exact UInt8.toNat_inj.1 (by show c.toNat=46; omega)
      ·rintro rfl; rfl
     rw[this]
    ·refine z00 (by simpa using h3) ?_;have:(a[a.length-b.length-1]'(by omega)::a.drop (a.length-b.length)==46::b)=false:=by
      simp[h3]
     rw[this]
   ·have hle:decide ((46::b).length<=a.length)=false:=decide_eq_false (by simp; omega);rw[hle,Bool.false_and];exact z00 (fun h'=>by have h'':(a.length:Int)-(b.length:Int) > 0:=of_decide_eq_true h'; omega) rfl
theorem zMt {s:List UInt8} {k:Nat} (hk:k<s.length) (hb:s[k]=46) (h:∀i (hi:i<s.length),i<k->s[i]≠46):z5i s=s.drop (k+1):=by
 induction s generalizing k with
 | nil=>simp at hk
 | cons c s ih=>
   unfold z5i
   cases k with
   | zero=>rw[if_pos (by simpa using hb)]; rfl
   | succ k=>
     have h0:=h 0 (by simp) (by omega);rw[if_neg (by simpa using h0)];exact ih (by simpa using hk) (by simpa using hb) (fun i hi hik=>by have:=h (i+1) (by simp; omega) (by omega); simpa using this)
theorem zGZ:∀{s:List UInt8},(∀i (hi:i<s.length),s[i]≠46)->z5i s=[]
 | [],_=>rfl
 | c::s,h=>by
   unfold z5i;have h0:=h 0 (by simp);rw[if_neg (by simpa using h0)];exact zGZ fun i hi=>by have:=h (i+1) (by simp; omega); simpa using this
theorem zOL {s:List UInt8} (h:s.length<=lim):z4A.F [.str s]=some (.str (z5i s)):=by
 have hlim:lim=1048576:=rfl
 have hsm:=Nat.le_trans h z1I
 rw[zGt]
 have hp:∀i (hi:i<s.length),((byteAt s i:Int)==46)=(s[i]==46):=by
  intro i hi;rw[z5p hi,Bool.eq_iff_iff];simp only[beq_iff_eq];constructor
  ·intro h; exact UInt8.toNat_inj.1 (by show s[i].toNat=46; omega)
  ·intro h; rw[h]; rfl
 rcases z65 (l:=[.int 0]) (fun i=>[.int i]) s.length (fun i=>!(s.getD i 0==46)) (t1:=0) (t2:=1) (o1:=fun k=>[.str (s.drop (k+1))]) (o2:=[]) (f:=fun l1=>
  if (decide ((gd l1 0).i<((D.str s).s.length:Int)))then
   if (inb (gd l1 0).i (D.str s).s.length)then
   if ((byteAt (D.str s).s (gd l1 0).i.toNat:Int)==46)then
    if (slOk (IntKind.wrap .i64 ((gd l1 0).i+1)) ((D.str s).s.length:Int) ((D.str s).s.length:Int))then
    ou 1 [(.str (((D.str s).s.take ((D.str s).s.length:Int).toNat).drop (IntKind.wrap .i64 ((gd l1 0).i+1)).toNat))]
    else none
   else
    ou 0 [(.int (IntKind.wrap .i64 ((gd l1 0).i+1)))]
   else none
  else
   ou 2 []) rfl (by
  intro i hi hpi;rw[z0E hi]at hpi;have:=hp i hi;rw[show(s[i]==46)=false by simpa using hpi]at this;refine z01 (by simpa using hi) (z01 (by simpa using z0B hi) ?_);have e0:(gd [D.int (i:Int)] 0).i.toNat=i:=by simp
  have e1:(gd [D.int (i:Int)] 0).i=i:=rfl;rw[e0,e1,z0P hi hsm];exact z00 (by rw[show(D.str s).s=s from rfl,this]; decide) rfl) (by
  intro i hi hpi;rw[z0E hi]at hpi;have:=hp i hi;rw[show(s[i]==46)=true by simpa using hpi]at this;refine z01 (by simpa using hi) (z01 (by simpa using z0B hi) ?_);have e0:(gd [D.int (i:Int)] 0).i.toNat=i:=by simp
  have e1:(gd [D.int (i:Int)] 0).i=i:=rfl;rw[e0,e1,z0P hi hsm,show(D.str s).s=s from rfl];refine z01 this (z01 (by simp[slOk]; omega) ?_);rw[Int.toNat_natCast,Int.toNat_natCast,List.take_length]) (by
  exact z00 (by simp) rfl)with ⟨hall,hloop⟩ | ⟨k,hk,hpk,hall,hloop⟩
 ·refine z0L hloop ?_;rw[zGZ (fun i hi=>by have:=hall i hi; rw[z0E hi]at this; simpa using this)]; rfl
 ·refine z0L hloop ?_;rw[z0E hk]at hpk;rw[zMt hk (by simpa using hpk) (fun i hi hik=>by have:=hall i hik; rw[z0E hi]at this; simpa using this)]; rfl
def isAt (n:List UInt8) (k:Int) (r:Rec):Bool:=r.name==n&&(k==0||r.type==k)
theorem f_at {xs:List Rec} {n:List UInt8} {k:Int} (hl:xs.length<=lim):z42.F [.lst (xs.map Rec.d),.str n,.int k]=some (.lst ((xs.filter (isAt n k)).map Rec.d)):=by
 have hlim:lim=1048576:=rfl
 have hsm:=Nat.le_trans hl z1I
 rw[zQI]
 have hlen:(D.lst (xs.map Rec.d)).l.length=xs.length:=by simp
 rw[hlen]
 refine z0L (z2Q (fun i (zs:List Rec)=>[.lst (zs.map Rec.d),.int i]) xs.length (fun i=>(xs.take i).filter (isAt n k)) (t:=0) (o:=[.lst ((xs.filter (isAt n k)).map Rec.d)]) (by simp) ?_ ?_) rfl
 ·intro i hi;have hg:gd (D.lst (xs.map Rec.d)).l i=xs[i].d:=z5A hi;have e0:(gd [D.lst (((xs.take i).filter (isAt n k)).map Rec.d),D.int (i:Int)] 1).i.toNat=i:=by simp
  have e1:(gd [D.lst (((xs.take i).filter (isAt n k)).map Rec.d),D.int (i:Int)] 1).i=i:=rfl;have e2:(gd [D.lst (((xs.take i).filter (isAt n k)).map Rec.d),D.int (i:Int)] 0)=D.lst (((xs.take i).filter (isAt n k)).map Rec.d):=rfl;have g0:(xs[i].d.fld 0).s=xs[i].name:=rfl;have g1:(xs[i].d.fld 1).i=xs[i].type:=rfl;have hfl:((xs.take i).filter (isAt n k)).length<=i:=by
   have:=List.length_filter_le (isAt n k) (xs.take i); simp at this; omega
  rw[e0,e1,e2,hg,g0,g1,z0P hi hsm];refine z01 (by simpa using hi) (z0w (r:=(0,[.lst (((xs.take (i+1)).filter (isAt n k)).map Rec.d)])) (z01 (by simpa using z0B hi) (z0w (r:=(0,[.bool (isAt n k xs[i])])) ?_ (sel0 ?_))) (sel0 rfl))
  ·unfold isAt;simp only[D.s_str,D.i_int];by_cases h1:xs[i].name=n
   ·refine z01 (by simpa using h1) ?_;by_cases h2:k=0
    ·exact z01 (by simpa using h2) (by simp[h1,h2])
    ·exact z00 (by simpa using h2) (by simp[h1,h2])
   ·exact z00 (by simpa using h1) (by simp[h1])
  ·rw[List.take_succ_eq_append_getElem hi,List.filter_append]
   cases hq:isAt n k xs[i]with
   | false=>exact z00 (by simp) (by simp[List.filter_cons,hq])
   | true=>
     refine z01 rfl (z01 ?_ (by simp[List.filter_cons,hq]));simp only[D.l_lst,appOk,List.length_map,List.length_singleton,z0c,Bool.and_eq_true,decide_eq_true_eq];omega
 ·have h1:xs.take xs.length=xs:=List.take_length;exact z00 (by simp) (by simp[h1])
def z6P (xs:List Rec) (n:List UInt8) (k:Int):Bool:=xs.any fun r=>r.name==n&&r.type==k
theorem zIw {xs:List Rec} {n:List UInt8} {k:Int} (hl:xs.length<=lim):z2H.F [.lst (xs.map Rec.d),.str n,.int k]=some (.bool (z6P xs n k)):=by
 have hsm:=Nat.le_trans hl z1I
 rw[zLZ]
 have hlen:(D.lst (xs.map Rec.d)).l.length=xs.length:=by simp
 rw[hlen]
 refine z0L (z38 (fun i=>[.int i]) xs.length (fun i=>!((xs.getD i Rec.nul).name==n&&(xs.getD i Rec.nul).type==k)) (t1:=0) (t2:=1) (o1:=[.bool true]) (o2:=[]) rfl ?_ ?_) ?_
 ·intro i hi;rw[z0E hi];have hg:gd (D.lst (xs.map Rec.d)).l i=xs[i].d:=z5A hi;have e0:(gd [D.int (i:Int)] 0).i.toNat=i:=by simp
  have e1:(gd [D.int (i:Int)] 0).i=i:=rfl;have g0:(xs[i].d.fld 0).s=xs[i].name:=rfl;have g1:(xs[i].d.fld 1).i=xs[i].type:=rfl;rw[e0,e1,hg,g0,g1,z0P hi hsm];refine z01 (by simpa using hi) (z01 (by simpa using z0B hi) (z0w (r:=(0,[.bool (xs[i].name==n&&xs[i].type==k)])) ?_ ?_))
  ·by_cases h1:xs[i].name=n
   ·exact z01 (by simpa using h1) (by simp[h1])
   ·exact z00 (by simpa using h1) (by simp[h1])
  ·cases (xs[i].name==n&&xs[i].type==k) <;> simp
 ·simp
 ·have:allN xs.length (fun i=>!((xs.getD i Rec.nul).name==n&&(xs.getD i Rec.nul).type==k)) = !(z6P xs n k):=by
   rw[z4v xs (fun r=>!(r.name==n&&r.type==k)) Rec.nul];unfold z6P;rw[<- List.not_any_eq_all_not]
  rw[this]
  cases z6P xs n k <;> simp
def zHG (apex:List UInt8) (xs:List Rec) (s:List UInt8):Option (List UInt8):=z7u apex (fun n=>z6P xs n 2) (s.length+1) s none
def zAi:Option (List UInt8)->D×D
 | none=>(.str [],.bool false)
 | some s=>(.str s,.bool true)
theorem parent_le (s:List UInt8):(z5i s).length<=s.length:=by
 cases s with
 | nil=>exact Nat.le_refl _
 | cons c s=>exact Nat.le_of_lt (z6S (by simp))
theorem zSY {apex:List UInt8} {xs:List Rec} {s:List UInt8} (ha:apex.length<=lim) (hl:xs.length<=lim) (hs:s.length<=lim):z5g.F [.str apex,.lst (xs.map Rec.d),.str s]=some (.pair (zAi (zHG apex xs s)).1 (.pair (zAi (zHG apex xs s)).2 .unit)):=by
 rw[zLY]
 have key:∀(n:Nat) (s:List UInt8) (o:Option (List UInt8)),s.length<n->s.length<=lim->z0d (fun l3=>
  (if (!((gd l3 0).s==(D.str apex).s))then
      (z22.F [(gd l3 0),(.str apex)]).bind fun r6=>
      ou 0 [r6]
    else
     ou 0 [(.bool false)]).bind fun o6=>
  sel2 o6.1 (if (gd o6.2 0).b then
   ((z2H.F [(.lst (xs.map Rec.d)),(gd l3 0),(.int 2)]).bind fun r7=>
     if r7.b then
      ou 0 [(gd l3 0),(.bool true)]
     else
      ou 0 [(gd l3 1),(gd l3 2)]).bind fun o7=>
   sel2 o7.1 (if ((gd l3 0).s==([]:List UInt8))then
    ou 1 [(gd o7.2 0),(gd o7.2 1)]
    else
     (z4A.F [(gd l3 0)]).bind fun r9=>
     ou 0 [r9,(gd o7.2 0),(gd o7.2 1)]) fun _=>none
   else
    ou 1 [(gd l3 1),(gd l3 2)]) fun _=>none) [.str s,(zAi o).1,(zAi o).2]=some (0,[(zAi (z7u apex (fun n=>z6P xs n 2) n s o)).1,(zAi (z7u apex (fun n=>z6P xs n 2) n s o)).2]):=by
  intro n
  induction n with
  | zero=>intro s o h; omega
  | succ n ih=>
    intro s o h hs;unfold z7u;have hb:=zKg hs ha;have hh:=zIw (xs:=xs) (n:=s) (k:=2) hl;have e0:gd [D.str s,(zAi o).1,(zAi o).2] 0=.str s:=rfl;have hj:(s≠apex/\bel s apex=true)↔(!(s==apex)&&bel s apex)=true:=by simp
    by_cases hc:s≠apex/\bel s apex=true
    ·rw[if_pos hc];have h1:(if (!((D.str s).s==(D.str apex).s))=true then(z22.F [(D.str s),(.str apex)]).bind fun r6=>ou 0 [r6]else ou 0 [(.bool false)]:Outc)=some (0,[.bool true]):=by
      rw[hc.2]at hb;exact z01 (by simpa using hc.1) (z04 hb rfl)
     have h2:((z2H.F [(.lst (xs.map Rec.d)),(D.str s),(.int 2)]).bind fun r7=>
      if r7.b then
       ou 0 [(D.str s),(.bool true)]
      else
       ou 0 [(zAi o).1,(zAi o).2]:Outc)=some (0,[(zAi (if z6P xs s 2 then some s else o)).1,(zAi (if z6P xs s 2 then some s else o)).2]):=by
      refine z04 hh ?_
      cases z6P xs s 2 with
      | false=>exact z00 (by simp) (by simp)
      | true=>exact z01 rfl (by simp[zAi])
     by_cases h0:s=[]
     ·rw[if_pos h0];refine z1B (z0w h1 (sel0 (z01 rfl (z0w h2 (sel0 (z01 ?_ rfl))))));simpa using h0
     ·rw[if_neg h0];have hp:=zOL hs;have hpl:=z6S h0;rw[<- ih (z5i s) (if z6P xs s 2 then some s else o) (by omega) (by omega)];refine z1m (z0w h1 (sel0 (z01 rfl (z0w h2 (sel0 (z00 ?_ (z04 hp rfl)))))));simpa using h0
    ·rw[if_neg hc];refine z1B (z0w (r:=(0,[.bool false])) ?_ (sel0 (z00 (by simp) rfl)));by_cases h1:s=apex
     ·exact z00 (by simpa using h1) rfl
     ·refine z01 (by simpa using h1) ?_;have:bel s apex=false:=by
       cases hq:bel s apex with
       | false=>rfl
       | true=>exact absurd ⟨h1,hq⟩ hc
      rw[this]at hb;exact z04 hb rfl
 exact z0L (key (s.length+1) s none (by omega) hs) rfl
end Go.Proofs.YtilejnnnkfjmmaaGreatDoor
