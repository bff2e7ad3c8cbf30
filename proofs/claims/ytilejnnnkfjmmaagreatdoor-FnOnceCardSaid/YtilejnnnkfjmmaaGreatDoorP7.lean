/- What the functions compute, in plain words. -/
import Derived.Test.YtilejnnnkfjmmaaGreatDoorP6
set_option linter.unusedSectionVars false
set_option linter.unusedVariables false
set_option linter.unusedSimpArgs false
namespace Go.Proofs.YtilejnnnkfjmmaaGreatDoor
open Go Go.Own
theorem zQ2 {s:List UInt8} (h:z11 s=true) {c:UInt8} (h1:z7g c=false) (h2:c≠42) (h3:c≠46):c∉s:=by
 intro hm
 obtain⟨p,hp,hc⟩:=(zA4 (b:=46) (c:=c) h3 s).1 hm
 unfold z11 at h
 simp only[Bool.and_eq_true,Bool.or_eq_true,List.all_eq_true,decide_eq_true_eq]at h
 rcases h.2 with he | he
 ·cases s with
  | nil=>simp at hm
  | cons x y=>simp at he
 ·have:=he.2 p hp;unfold z6H at this;simp only[Bool.or_eq_true,Bool.and_eq_true,List.all_eq_true]at this;rcases this with h4 | h4
  ·have:p=[42]:=by simpa using h4
   subst this;simp only[List.mem_singleton]at hc;exact h2 hc
  ·rw[h4.2 c hc]at h1; cases h1
theorem zRy {c:UInt8} (h:z6g c=false) {u:Nat}:c∉Lib.decDigits u:=by
 intro hm
 rw[z7x u c hm]at h; cases h
theorem z4O {c:UInt8} (h:z6g c=false) {v:Int} (hv:0<=v):c∉Lib.itoa v:=by
 obtain⟨n,rfl⟩:=Int.eq_ofNat_of_zero_le hv
 rw[z62]; exact zRy h
theorem zNC {s:List UInt8} (h:z11 s=true) {c:UInt8} (h1:z7g c=false) (h2:c≠42) (h3:c≠46):c∉told s:=by
 unfold told
 split
 ·simpa using h3
 ·exact zQ2 h h1 h2 h3
theorem zFC {s:List UInt8} (h:z11 s=true):(if told s=[46]then []else told s)=s:=by
 unfold told
 cases s with
 | nil=>rfl
 | cons c r=>
   have he:(c::r).isEmpty=false:=rfl;rw[he];simp only[Bool.false_eq_true,if_false];split
   ·rename_i h46;rw[h46]at h;exact absurd h (by decide)
   ·rfl
theorem zQx {c:UInt8} (h:z6g c=false) {s:List UInt8} (hc:z86 s=true):c∉s:=by
 intro hm
 rw[(z7C s).1 hc]at hm
 exact zRy h hm
theorem zQ7 {c:UInt8} (h:z6g c=false) {s:List UInt8} {m:Int} (hc:z35 s m=true):c∉s:=by
 unfold z35 at hc
 simp only[Bool.and_eq_true]at hc
 exact zQx h hc.1
theorem zSC {s:List UInt8} (h:z61 s=true) {c:UInt8} (h1:z7g c=false) (h2:c≠42) (h3:c≠46):c∉s:=by
 unfold z61 at h
 simp only[Bool.and_eq_true]at h
 exact zQ2 h.2.1 h1 h2 h3
theorem zSO {k:Int} {s:List UInt8} (h:z3g k s=true):(10:UInt8)∉s:=by
 unfold z3g at h
 split at h
 ·intro hm;obtain⟨p,hp,hc⟩:=(zA4 (b:=46) (c:=10) (by decide) s).1 hm;unfold zAR at h;simp only[Bool.and_eq_true,List.all_eq_true]at h;exact zQ7 (by decide) (h.1 p hp) hc
 ·split at h
  ·exact zSC h (by decide) (by decide) (by decide)
  ·split at h
   ·exact zQ7 (by decide) h
   ·split at h
    ·intro hm;obtain⟨p,hp,hc⟩:=(zA4 (b:=32) (c:=10) (by decide) s).1 hm;unfold mxOk at h;generalize splB 32 s=l at h hp;unfold mxP at h;split at h
     ·simp only[Bool.and_eq_true]at h;simp only[List.mem_cons,List.not_mem_nil,or_false]at hp;rcases hp with rfl | rfl
      ·exact zQ7 (by decide) h.1 hc
      ·exact zSC h.2 (by decide) (by decide) (by decide) hc
     ·cases h
    ·split at h
     ·intro hm;unfold zOy at h;simp only[Bool.and_eq_true,List.all_eq_true]at h;exact absurd (h.2 10 hm) (by decide)
     ·cases h
theorem Rec.parts_ok {r:Rec} (h:r.ok=true):z11 r.name=true/\z3g r.type r.data=true/\0<=r.ttl/\r.ttl<=100000:=by
 unfold Rec.ok at h
 simp only[Bool.and_eq_true,inP,decide_eq_true_eq]at h
 exact⟨h.2.1,h.1,h.2.2⟩
theorem Rec.text_eq (r:Rec):r.text=told r.name++32::(Lib.itoa r.ttl++32::(Lib.itoa r.type++32::r.data)):=by
 simp[Rec.text]
theorem Rec.text_no {r:Rec} (h:r.ok=true):(10:UInt8)∉r.text:=by
 obtain⟨h1,h2,h3,_⟩:=r.parts_ok h
 have ht:=zDx h
 rw[r.text_eq]
 simp only[List.mem_append,List.mem_cons,not_or]
 exact⟨zNC h1 (by decide) (by decide) (by decide),by decide,z4O (by decide) h3,by decide,z4O (by decide) ht.1,by decide,zSO h2⟩
theorem Rec.text_split {r:Rec} (h:r.ok=true):splB 32 r.text=told r.name::Lib.itoa r.ttl::Lib.itoa r.type::splB 32 r.data:=by
 obtain⟨h1,h2,h3,_⟩:=r.parts_ok h
 have ht:=zDx h
 rw[r.text_eq,z56 (zNC h1 (by decide) (by decide) (by decide)),z56 (z4O (by decide) h3),z56 (z4O (by decide) ht.1)]
theorem zDa {b:UInt8} {k:Nat} {p q:List UInt8} (h:b∉p):Lib.splitK [b] 0 (k+1) (p++b::q)=p::Lib.splitK [b] 0 k q:=by
 have h0:((p.length:Int) == -1)=false:=by rw[beq_eq_false_iff_ne]; omega
 have hd:(p++b::q).drop (p.length+1)=q:=by
  rw[List.drop_append,List.drop_eq_nil_of_le (by omega),show p.length+1-p.length=1 by omega]; rfl
 rw[Lib.splitK,z60 h,h0]
 simp only[Bool.false_eq_true,if_false,Int.toNat_natCast,Nat.add_zero,List.take_left',List.length_cons,List.length_nil,Nat.zero_add]
 rw[hd]
theorem zOu (s:List UInt8) (b:UInt8) (n:Nat):z5B s [b] n=Lib.splitK [b] 0 (min n (s.length+1)-1) s:=by
 unfold z5B
 rw[Lib.splitB_data]
 simp only[z3l]
theorem Rec.text_splitN {r:Rec} (h:r.ok=true):z5B r.text [32] 4=[told r.name,Lib.itoa r.ttl,Lib.itoa r.type,r.data]:=by
 obtain⟨h1,h2,h3,_⟩:=r.parts_ok h
 have ht:=zDx h
 have hl:3<=r.text.length:=by rw[r.text_eq]; simp; omega
 rw[zOu,show min 4 (r.text.length+1)-1=3 by omega,r.text_eq,zDa (zNC h1 (by decide) (by decide) (by decide)),zDa (z4O (by decide) h3),zDa (z4O (by decide) ht.1)]
 rfl
theorem zQg {s sep:List UInt8} {n:Nat}:∀p∈z5B s sep n,p.length<=s.length:=by
 intro p hp
 unfold z5B at hp
 obtain⟨q,hq,rfl⟩:=List.mem_map.1 hp
 have:=zCK (mkS sep) 0 (Nat.zero_le _) _ (mkS s) q hq
 rw[z52]at this
 rw[Array.length_toList]; exact this
theorem zRE {s:List UInt8} (h:s.length<=lim):z3f.F [.str s,.str [32],.int 4]=some (.lst ((z5B s [32] 4).map .str)):=by
 rw[show z3f.F=zH7 from by unfold z3f zH6; rfl]
 unfold zH7
 have hlim:lim=1048576:=rfl
 exact if_pos ⟨by simp; omega,by decide,by decide⟩
def zQJ:D:=.pair Rec.nul.d (.pair (.bool false) .unit)
def zDv (r:Rec):D:=.pair r.d (.pair (.bool true) .unit)
open Classical in
noncomputable def z8n (s:List UInt8):D:=if h:∃r:Rec,r.ok=true/\r.text=s then zDv h.choose else zQJ
theorem z9g {s:List UInt8} (h:∀r:Rec,r.ok=true->r.text≠s):z8n s=zQJ:=by
 unfold z8n
 exact dif_neg fun⟨r,h1,h2⟩=>h r h1 h2
theorem zLd {s:List UInt8} {r0:Rec} (h:∀r:Rec,r.ok=true->r.text=s->r=r0):(if r0.ok=true/\r0.text=s then zDv r0 else zQJ)=z8n s:=by
 unfold z8n
 by_cases h0:∃r:Rec,r.ok=true/\r.text=s
 ·obtain⟨h1,h2⟩:=h0.choose_spec;have h3:=h _ h1 h2;rw[dif_pos h0,if_pos (by rw[<- h3]; exact⟨h1,h2⟩),h3]
 ·rw[dif_neg h0,if_neg fun h1=>h0 ⟨r0,h1⟩]
theorem z8C {v:Int} (h0:0<=v) (h1:v<10000000000):z2E (Lib.itoa v)=v:=by
 obtain⟨n,rfl⟩:=Int.eq_ofNat_of_zero_le h0
 rw[z62]
 unfold z2E
 rw[if_pos ⟨zBT n,zCR (k:=10) (by omega) (by omega)⟩,z5e]
theorem z95 {v:Int} (h0:0<=v) (h1:v<9223372036854775808):z7w (Lib.itoa v)=.pair (.int v) (.pair (.bool false) .unit):=by
 obtain⟨n,rfl⟩:=Int.eq_ofNat_of_zero_le h0
 rw[z62]
 unfold z7w
 rw[zNJ (by omega)]
theorem z84 (s:List UInt8):∃(v:Int) (e:Bool),z7w s=.pair (.int v) (.pair (.bool e) .unit):=by
 unfold z7w
 cases Lib.atoiAll s with
 | ok v=>exact⟨v,false,rfl⟩
 | range=>exact⟨_,true,rfl⟩
 | _=>exact⟨0,true,rfl⟩
theorem zQK {s:List UInt8} {r0:Rec} (h:∀r:Rec,r.ok=true->r.text=s->r=r0):(if (!(r0.ok&&(r0.text==s)))=true then zQJ else zDv r0)=z8n s:=by
 rw[<- zLd h]
 by_cases h1:r0.ok=true/\r0.text=s
 ·rw[if_neg (by simp[h1.1,h1.2]),if_pos h1]
 ·rw[if_neg h1,if_pos];rw[Bool.not_eq_true',Bool.and_eq_false_iff];by_cases h2:r0.ok=true
  ·exact .inr (by rw[beq_eq_false_iff_ne]; exact fun h3=>h1 ⟨h2,h3⟩)
  ·exact .inl (by simpa using h2)
theorem zE3 {s:List UInt8} (hl:s.length<=lim):z49.F [.str s]=some (z8n s):=by
 have hlim:lim=1048576:=rfl
 rw[zDQ]
 have hsp:=z6c s 32 hl
 have hlens:=z9I 32 s
 have hmem:=z6F 32 s
 have hsl:=z6Y 32 s
 refine z03 hsp ?_
 have hlen:(D.lst ((splB 32 s).map D.str)).l=(splB 32 s).map D.str:=rfl
 rw[hlen,List.length_map]
 by_cases h4:(splB 32 s).length<4
 ·refine z0G (decide_eq_true (by omega)) ?_;rw[z9g]
  ·rfl
  ·rintro r h1 rfl;rw[Rec.text_split h1]at h4;simp at h4;have:=z6w 32 r.data
   cases hq:splB 32 r.data with
   | nil=>exact this hq
   | cons a b=>rw[hq]at h4; simp at h4; omega
 ·refine z05 (fun h=>h4 (by have:=of_decide_eq_true h; omega)) ?_;obtain⟨a,b,c,l,hs⟩:∃a b c l,splB 32 s=a::b::c::l:=by
   match h:splB 32 s with
   | []=>rw[h]at h4; simp at h4
   | [a]=>rw[h]at h4; simp at h4
   | [a,b]=>rw[h]at h4; simp at h4
   | a::b::c::l=>exact⟨a,b,c,l,rfl⟩
  rw[hs]at hlens hmem |-;have hll:1<=l.length:=by rw[hs]at h4; simp at h4; omega
  obtain⟨d,l,rfl⟩:∃d l',l=d::l':=by cases l with | nil=>simp at hll | cons d l=>exact⟨d,l,rfl⟩
  have ha:=hmem a (by simp);have hb:=hmem b (by simp);have hc:=hmem c (by simp);have hsum:a.length+b.length+c.length+3<=s.length:=by
   unfold lens at hlens;simp only[List.map_cons,List.sum_cons]at hlens;omega
  have g0:gd ((a::b::c::d::l).map D.str) 0=.str a:=rfl;have g1:gd ((a::b::c::d::l).map D.str) 1=.str b:=rfl;have g2:gd ((a::b::c::d::l).map D.str) 2=.str c:=rfl;have w:IntKind.wrap .i64 (IntKind.wrap .i64 (IntKind.wrap .i64 ((a.length:Int)+b.length)+c.length)+3)=((a.length+b.length+c.length+3:Nat):Int):=by
   rw[z0f (x:=(a.length:Int)+b.length) (by omega) (by omega),z0f (x:=(a.length:Int)+b.length+c.length) (by omega) (by omega),z0f] <;> omega
  have hf1:=z7K (s:=b) (by omega);have hf2:=z7K (s:=c) (by omega);rw[g0,g1,g2];simp only[D.s_str,w,Int.toNat_natCast,List.take_length];refine z0G (z5z (by decide) (by simp; omega)) (z0G (z5z (by decide) (by simp; omega)) (z03 hf1 (z0G (z5z (by decide) (by simp; omega)) (z03 hf2 (z0G (by simp[slOk]; omega) ?_)))));have key:∀r0:Rec,r0=⟨if a=[46]then []else a,z2E c,z2E b,s.drop (a.length+b.length+c.length+3)⟩->∀r:Rec,r.ok=true->r.text=s->r=r0:=by
   rintro r0 rfl r h1 h2;have h3:=Rec.text_split h1;rw[h2,hs]at h3;simp only[List.cons.injEq]at h3;obtain⟨rfl,rfl,rfl,_⟩:=h3;obtain⟨k1,k2,k3,k4⟩:=r.parts_ok h1;have kt:=zDx h1;have hd:s.drop ((told r.name).length+(Lib.itoa r.ttl).length+(Lib.itoa r.type).length+3)=r.data:=by
    rw[<- h2,Rec.text];exact List.drop_left' (by simp; omega)
   rw[hd,zFC k1,z8C kt.1 (by omega),z8C k3 (by omega)]
  refine z06 (l:=[(⟨if a=[46]then []else a,z2E c,z2E b,s.drop (a.length+b.length+c.length+3)⟩:Rec).d]) ?_ ?_
  ·by_cases h46:a=[46]
   ·refine z01 (by simp[h46]) ?_;rw[if_pos h46]; rfl
   ·refine z00 (by simpa using h46) ?_;rw[if_neg h46]; rfl
  ·have hk:=key _ rfl;have hin:(⟨if a=[46]then []else a,z2E c,z2E b,s.drop (a.length+b.length+c.length+3)⟩:Rec).In lim:=by
    refine⟨?_,by simp; omega⟩;split
    ·simp
    ·show a.length<=lim; omega
   generalize (⟨if a=[46]then []else a,z2E c,z2E b,s.drop (a.length+b.length+c.length+3)⟩:Rec)=r0 at hk hin |-;have hg:=z9r hin;rw[<- zQK hk];refine z06 (l:=[.bool (!(r0.ok&&(r0.text==s)))]) ?_ ?_
   ·cases h1:r0.ok with
    | false=>rw[h1]at hg; exact z04 hg (z01 rfl rfl)
    | true=>rw[h1]at hg; exact z04 hg (z00 (by simp) (z04 (zNb (Rec.sizes h1)) (by simp)))
   ·simp only[z16,D.b_bool]
    cases (!(r0.ok&&(r0.text==s))) <;> rfl
theorem zE1 {s:List UInt8} (hl:s.length<=lim):z40.F [.str s]=some (z8n s):=by
 have hlim:lim=1048576:=rfl
 rw[zDI]
 have hsp:=zRE hl
 have hmem:=zQg (s:=s) (sep:=[32]) (n:=4)
 refine z03 hsp ?_
 have hlen:(D.lst ((z5B s [32] 4).map D.str)).l=(z5B s [32] 4).map D.str:=rfl
 rw[hlen,List.length_map]
 by_cases h3:s.length > 300
 ·refine z06 (l:=[.bool true]) (z01 (decide_eq_true (by simp; omega)) rfl) (z0G rfl ?_);rw[z9g]
  ·rfl
  ·rintro r h1 rfl;have:=Rec.text_len (Rec.sizes h1);omega
 by_cases h4:(z5B s [32] 4).length=4
 ·refine z06 (l:=[.bool false]) (z00 (fun h=>h3 (by have:=of_decide_eq_true h; simp at this; omega)) (by simp[h4])) (z05 (by simp) ?_);obtain⟨a,b,c,d,hs⟩:∃a b c d,z5B s [32] 4=[a,b,c,d]:=by
   match h:z5B s [32] 4 with
   | []=>rw[h]at h4; simp at h4
   | [a]=>rw[h]at h4; simp at h4
   | [a,b]=>rw[h]at h4; simp at h4
   | [a,b,c]=>rw[h]at h4; simp at h4
   | [a,b,c,d]=>exact⟨a,b,c,d,rfl⟩
   | a::b::c::d::e::l=>rw[h]at h4; simp at h4
  rw[hs]at hmem |-;have ha:=hmem a (by simp);have hb:=hmem b (by simp);have hc:=hmem c (by simp);have hd:=hmem d (by simp);have g0:gd ([a,b,c,d].map D.str) 0=.str a:=rfl;have g1:gd ([a,b,c,d].map D.str) 1=.str b:=rfl;have g2:gd ([a,b,c,d].map D.str) 2=.str c:=rfl;have g3:gd ([a,b,c,d].map D.str) 3=.str d:=rfl;rw[g0,g1,g2,g3];obtain⟨v,e,hv⟩:=z84 b;obtain⟨u,e2,hu⟩:=z84 c;have hf1:=zI8 (s:=b) (by omega);have hf2:=zI8 (s:=c) (by omega);refine z0G (z5z (by decide) (by simp)) (z0G (z5z (by decide) (by simp)) (z06 (l:=[(⟨if a=[46]then []else a,0,0,d⟩:Rec).d]) ?_ ?_))
  ·by_cases h46:a=[46]
   ·refine z01 (by simp[h46]) ?_;rw[if_pos h46]; rfl
   ·refine z00 (by simpa using h46) ?_;rw[if_neg h46]; rfl
  refine z0G (z5z (by decide) (by simp)) (z03 hf1 (z0G (z5z (by decide) (by simp)) (z03 hf2 ?_)));have e0:(((gd [(⟨if a=[46]then []else a,0,0,d⟩:Rec).d] 0).setFld 2 ((z7w b).fld 0)).setFld 1 ((z7w c).fld 0))=(⟨if a=[46]then []else a,u,v,d⟩:Rec).d:=by
   rw[hv,hu]; rfl
  have key:∀r0:Rec,r0=⟨if a=[46]then []else a,u,v,d⟩->∀r:Rec,r.ok=true->r.text=s->r=r0:=by
   rintro r0 rfl r h1 h2;have h3:=Rec.text_splitN h1;rw[h2,hs]at h3;simp only[List.cons.injEq,and_true]at h3;obtain⟨rfl,rfl,rfl,rfl⟩:=h3;obtain⟨k1,k2,k3,k4⟩:=r.parts_ok h1;have kt:=zDx h1;rw[z95 k3 (by omega)]at hv;rw[z95 kt.1 (by omega)]at hu;simp only[D.pair.injEq,D.int.injEq]at hv hu;rw[zFC k1,<- hv.1,<- hu.1]
  rw[e0];have hk:=key _ rfl;have hin:(⟨if a=[46]then []else a,u,v,d⟩:Rec).In lim:=by
   refine⟨?_,by show d.length<=lim; omega⟩;split
   ·simp
   ·show a.length<=lim; omega
  generalize (⟨if a=[46]then []else a,u,v,d⟩:Rec)=r0 at hk hin |-;have hg:=zBW hin;rw[<- zQK hk];refine z06 (l:=[.bool (!(r0.ok&&(r0.text==s)))]) ?_ ?_
  ·cases h1:r0.ok with
   | false=>rw[h1]at hg; exact z04 hg (z01 rfl rfl)
   | true=>rw[h1]at hg; exact z04 hg (z00 (by simp) (z04 (zDl (Rec.sizes h1)) (by simp)))
  ·simp only[z16,D.b_bool]
   cases (!(r0.ok&&(r0.text==s))) <;> rfl
 ·refine z06 (l:=[.bool true]) (z00 (fun h=>h3 (by have:=of_decide_eq_true h; simp at this; omega)) ?_) (z0G rfl ?_)
  ·simp; omega
  ·rw[z9g]
   ·rfl
   ·rintro r h1 rfl;rw[Rec.text_splitN h1]at h4;exact h4 rfl
end Go.Proofs.YtilejnnnkfjmmaaGreatDoor
namespace Go.Proofs.YtilejnnnkfjmmaaGreatDoor
open Go Go.Own
structure TChg where
 kind:Int
 rc:Rec
structure TAsk where
 client:Int
 no:Int
 cs:List TChg
def TChg.d (c:TChg):D:=.pair (.int c.kind) (.pair c.rc.d .unit)
def TAsk.d (a:TAsk):D:=.pair (.int a.client) (.pair (.int a.no) (.pair (.lst (a.cs.map TChg.d)) .unit))
structure TAsk.In (B:Nat) (a:TAsk):Prop where
 len:a.cs.length<=B
 all:∀c∈a.cs,c.rc.In B
def TChg.ok (c:TChg):Bool:=inP c.kind 1 4&&(c.rc.ok && !(c.rc.type==6))
def TChg.nul:TChg:=⟨0,⟨[],0,0,[]⟩⟩
def TAsk.who (a:TAsk):Bool:=inP a.client 0 100&&inP a.no 1 1000
def TAsk.ok (a:TAsk):Bool:=a.who&&(a.cs.all TChg.ok&&decide (a.cs.length<=12))
theorem zKB {xs:List TChg} {i:Nat} (hi:i<xs.length):gd (xs.map TChg.d) i=xs[i].d:=by
 rw[z9E (by simpa using hi)]; simp
theorem zM8 (a b:Int):z1n.F [.int a,.int b]=some (.bool (inP a 0 100&&inP b 1 1000)):=by
 rw[z9f]
 have h1:=z4u a 0 100
 have h2:=z4u b 1 1000
 refine z06 (l:=[.bool (inP a 0 100&&inP b 1 1000)]) ?_ rfl
 cases h:inP a 0 100 with
 | false=>rw[h]at h1; exact z04 h1 (z00 (by simp) rfl)
 | true=>rw[h]at h1; exact z04 h1 (z01 rfl (z04 h2 rfl))
theorem zP4 (a b:Int):z2i.F [.int a,.int b]=some (.bool (inP a 0 100&&inP b 1 1000)):=by
 rw[zCE]
 have h1:=z7J a 0 100
 have h2:=z7J b 1 1000
 refine z06 (l:=[.bool (inP a 0 100&&inP b 1 1000)]) ?_ rfl
 cases h:inP a 0 100 with
 | false=>rw[h]at h1; exact z04 h1 (z00 (by simp) rfl)
 | true=>rw[h]at h1; exact z04 h1 (z01 rfl (z04 h2 rfl))
theorem zHE {c:TChg} (hc:c.rc.In lim):z1W.F [c.d]=some (.bool !c.ok):=by
 rw[z7U]
 have f0:c.d.fld 0=.int c.kind:=rfl
 have f1:c.d.fld 1=c.rc.d:=rfl
 have f2:(c.rc.d.fld 1).i=c.rc.type:=rfl
 rw[f0,f1,f2]
 have h1:=z4u c.kind 1 4
 have h2:=zBW hc
 refine z06 (l:=[.bool !c.ok]) ?_ rfl
 unfold TChg.ok
 cases k1:inP c.kind 1 4 with
 | false=>rw[k1]at h1; exact z04 h1 (z01 rfl rfl)
 | true=>
   rw[k1]at h1
   cases k2:c.rc.ok with
   | false=>rw[k2]at h2; exact z04 h1 (z00 (by simp) (z04 h2 (z01 rfl rfl)))
   | true=>rw[k2]at h2; exact z04 h1 (z00 (by simp) (z04 h2 (z00 (by simp) (by simp))))
theorem zKA {xs:List TChg} (u:D) (hl:xs.length<=smax) (hx:∀c∈xs,c.rc.In lim):z0D.F [.lst (xs.map TChg.d),u]=some (.bool !(xs.all TChg.ok)):=by
 rw[z0x]
 have key:∃r,z0F.F [.lst (xs.map TChg.d),u]=some r/\∃n:Int,r=.int n/\decide (n >= 0) = !(xs.all TChg.ok):=by
  rw[z15];have hp:∀i (hi:i<xs.length),z1W.F [xs[i].d]=some (.bool !xs[i].ok):=fun i hi=>zHE (hx _ (List.getElem_mem hi));refine zJ2 (fun i=>[.int i]) xs.length (fun i=>(xs.getD i TChg.nul).ok) (t1:=0) (t2:=1) (o1:=fun i=>[.int i]) (o2:=[]) rfl ?_ ?_ ?_ ?_ ?_
  ·intro i hi h;rw[z0E hi]at h;have:=hp i hi;rw[h]at this;simp[hi,z0B hi,z0P hi hl,zKB hi,this]
  ·intro i hi h;rw[z0E hi]at h;have:=hp i hi;rw[h]at this;simp[hi,z0B hi,zKB hi,this]
  ·simp
  ·intro hall;refine⟨_,rfl,-1,rfl,?_⟩;have:xs.all TChg.ok=true:=by
    rw[<- z4v xs TChg.ok TChg.nul,z1S]; exact hall
   rw[this]; rfl
  ·intro j hj hp' _;refine⟨_,rfl,j,rfl,?_⟩;have:xs.all TChg.ok=false:=by
    rw[<- z4v xs TChg.ok TChg.nul]; exact z83 hj hp'
   rw[this]; simp
 obtain⟨r,h1,n,rfl,h2⟩:=key
 refine z03 h1 ?_
 rw[<- h2]; rfl
theorem zIg {xs:List TChg} (hl:xs.length<=lim) (hx:∀c∈xs,c.rc.In lim):z1w.F [.lst (xs.map TChg.d)]=some (.bool (xs.all TChg.ok&&decide (xs.length<=12))):=by
 rw[z8P]
 have hlen:(D.lst (xs.map TChg.d)).l.length=xs.length:=by simp
 have hc:=zKA .unit (Nat.le_trans hl z1I) hx
 rw[hlen]
 refine z06 (l:=[.bool (xs.all TChg.ok&&decide (xs.length<=12))]) ?_ rfl
 by_cases h12:xs.length<=12
 ·exact z01 (decide_eq_true (show(xs.length:Int)<=12 by omega)) (z04 hc (by simp[h12]))
 ·exact z00 (fun h=>by have h':(xs.length:Int)<=12:=of_decide_eq_true h; omega) (by simp[h12])
theorem zOA {xs:List TChg} (hl:xs.length<=lim) (hx:∀c∈xs,c.rc.In lim):z3E.F [.lst (xs.map TChg.d)]=some (.bool (xs.all TChg.ok&&decide (xs.length<=12))):=by
 rw[zAe]
 have hsm:=Nat.le_trans hl z1I
 have hlen:(D.lst (xs.map TChg.d)).l.length=xs.length:=by simp
 rw[hlen]
 refine z0L (z38 (fun i=>[.int i]) xs.length (fun i=>(xs.getD i TChg.nul).ok) (t1:=0) (t2:=1) (o1:=[]) (o2:=[]) rfl ?_ ?_) ?_
 ·intro i hi;rw[z0E hi];have hg:gd (D.lst (xs.map TChg.d)).l i=xs[i].d:=zKB hi;have h1:=z7J xs[i].kind 1 4;have h2:=z9r (hx _ (List.getElem_mem hi));refine z01 (by simpa using hi) (z01 (by simpa using z0B hi) ?_);have e0:(gd [D.int (i:Int)] 0).i.toNat=i:=by simp
  have e1:(gd [D.int (i:Int)] 0).i=i:=rfl;have g0:xs[i].d.fld 0=.int xs[i].kind:=rfl;have g1:xs[i].d.fld 1=xs[i].rc.d:=rfl;have g2:(xs[i].rc.d.fld 1).i=xs[i].rc.type:=rfl;rw[e0,e1,hg,g0,g1,g2,z0P hi hsm];refine z0w (r:=(0,[.bool !xs[i].ok])) ?_ ?_
  ·unfold TChg.ok
   cases k1:inP xs[i].kind 1 4 with
   | false=>rw[k1]at h1; exact z04 h1 (z01 rfl rfl)
   | true=>
     rw[k1]at h1
     cases k2:xs[i].rc.ok with
     | false=>rw[k2]at h2; exact z04 h1 (z00 (by simp) (z04 h2 (z01 rfl rfl)))
     | true=>rw[k2]at h2; exact z04 h1 (z00 (by simp) (z04 h2 (z00 (by simp) (by simp))))
  ·cases xs[i].ok <;> simp
 ·simp
 ·rw[z4v xs TChg.ok TChg.nul]
  cases xs.all TChg.ok with
  | false=>simp
  | true=>
    have:decide ((xs.length:Int)<=12)=decide (xs.length<=12):=by rw[Bool.eq_iff_iff]; simp; omega
    simp[this]
def TChg.text (c:TChg):List UInt8:=(([10]++Lib.itoa c.kind)++[32])++c.rc.text
def TAsk.textAt (a:TAsk):Nat->List UInt8
 | 0=>(Lib.itoa a.client++[32])++Lib.itoa a.no
 | i+1=>a.textAt i++(a.cs.getD i TChg.nul).text
structure TChg.Sizes (c:TChg):Prop where
 k0:0<=c.kind
 k1:c.kind<10 ^ 18
 r:c.rc.Sizes
theorem TChg.sizes {c:TChg} (h:c.ok=true):c.Sizes:=by
 have hp18:(10:Int) ^ 18=1000000000000000000:=by decide
 unfold TChg.ok at h
 simp only[Bool.and_eq_true,inP,decide_eq_true_eq]at h
 exact⟨by omega,by omega,Rec.sizes h.2.1⟩
theorem TChg.text_len {c:TChg} (h:c.Sizes):c.text.length<=300:=by
 have h1:=z3U h.k0 h.k1
 have h2:=Rec.text_len h.r
 simp only[TChg.text,List.length_append,List.length_singleton]
 omega
theorem TAsk.text_len {a:TAsk} (hc0:0<=a.client/\a.client<10 ^ 18) (hn0:0<=a.no/\a.no<10 ^ 18) (hx:∀c∈a.cs,c.Sizes):∀i,i<=a.cs.length->(a.textAt i).length<=40+300*i
 | 0,_=>by
   have h1:=z3U hc0.1 hc0.2;have h2:=z3U hn0.1 hn0.2;simp only[TAsk.textAt,List.length_append,List.length_singleton]; omega
 | i+1,hi=>by
   have ih:=TAsk.text_len hc0 hn0 hx i (by omega);have h1:=TChg.text_len (hx _ (List.getElem_mem (show i<a.cs.length by omega)));rw[TAsk.textAt,z0E (by omega),List.length_append]; omega
theorem zK9 {a:TAsk} (hok:a.ok=true):z4W.F [a.d]=some (.str (a.textAt a.cs.length)):=by
 have hp18:(10:Int) ^ 18=1000000000000000000:=by decide
 unfold TAsk.ok TAsk.who at hok
 simp only[Bool.and_eq_true,inP,decide_eq_true_eq,List.all_eq_true]at hok
 obtain⟨⟨hc0,hn0⟩,hall,h12⟩:=hok
 have hx:∀c∈a.cs,c.Sizes:=fun c hc=>TChg.sizes (hall c hc)
 have hc0':0<=a.client/\a.client<10 ^ 18:=⟨hc0.1,by omega⟩
 have hn0':0<=a.no/\a.no<10 ^ 18:=⟨by omega,by omega⟩
 have hsm:a.cs.length<=smax:=by rw[z0c]; omega
 rw[zEk]
 have f0:a.d.fld 0=.int a.client:=rfl
 have f1:a.d.fld 1=.int a.no:=rfl
 have hlen:(a.d.fld 2).l.length=a.cs.length:=by simp[TAsk.d]
 have hd2:(a.d.fld 2).l=a.cs.map TChg.d:=rfl
 rw[f0,f1,hlen]
 have h1:=z3U hc0'.1 hc0'.2
 have h2:=z3U hn0'.1 hn0'.2
 refine z03 (zDj hc0'.1 hc0'.2) (z0G (z72 ?_) (z03 (zDj hn0'.1 hn0'.2) (z0G (z72 ?_) (z0L (z2Q (fun i (s:List UInt8)=>[.str s,.int i]) a.cs.length a.textAt (t:=0) (o:=[.str (a.textAt a.cs.length)]) rfl ?_ ?_) rfl))))
 ·simp only[D.s_str,List.length_singleton]; omega
 ·simp only[D.s_str,List.length_append,List.length_singleton]; omega
 ·intro i hi;have hg:gd (a.cs.map TChg.d) i=a.cs[i].d:=zKB hi;have hsz:=hx _ (List.getElem_mem hi);have hl1:=TAsk.text_len hc0' hn0' hx i (Nat.le_of_lt hi);have hl2:=TChg.text_len hsz;have hl3:=Rec.text_len hsz.r;have hl4:=z3U hsz.k0 hsz.k1;refine z01 (by simpa using hi) (z01 (by simpa using z0B hi) ?_);have e0:(gd [D.str (a.textAt i),D.int (i:Int)] 1).i.toNat=i:=by simp
  have e1:(gd [D.str (a.textAt i),D.int (i:Int)] 1).i=i:=rfl;have e2:(gd [D.str (a.textAt i),D.int (i:Int)] 0).s=a.textAt i:=rfl;have g0:a.cs[i].d.fld 0=.int a.cs[i].kind:=rfl;have g1:a.cs[i].d.fld 1=a.cs[i].rc.d:=rfl;rw[e0,e1,e2,hd2,hg,g0,g1,z0P hi hsm];refine z04 (zDj hsz.k0 hsz.k1) (z01 (z72 ?_) (z01 (z72 ?_) (z04 (zDl hsz.r) (z01 (z72 ?_) (z01 (z72 ?_) ?_)))))
  ·simp only[D.s_str,List.length_singleton]; omega
  ·simp only[D.s_str,List.length_append,List.length_singleton]; omega
  ·simp only[D.s_str,List.length_append,List.length_singleton]; omega
  ·simp only[D.s_str,List.length_append,List.length_singleton]; omega
  ·rw[TAsk.textAt,z0E hi]; rfl
 ·exact z00 (by simp) rfl
theorem zO9 {a:TAsk} (hok:a.ok=true):z5K.F [a.d]=some (.str (a.textAt a.cs.length)):=by
 have hp18:(10:Int) ^ 18=1000000000000000000:=by decide
 unfold TAsk.ok TAsk.who at hok
 simp only[Bool.and_eq_true,inP,decide_eq_true_eq,List.all_eq_true]at hok
 obtain⟨⟨hc0,hn0⟩,hall,h12⟩:=hok
 have hx:∀c∈a.cs,c.Sizes:=fun c hc=>TChg.sizes (hall c hc)
 have hc0':0<=a.client/\a.client<10 ^ 18:=⟨hc0.1,by omega⟩
 have hn0':0<=a.no/\a.no<10 ^ 18:=⟨by omega,by omega⟩
 have hsm:a.cs.length<=smax:=by rw[z0c]; omega
 rw[zHy]
 have f0:a.d.fld 0=.int a.client:=rfl
 have f1:a.d.fld 1=.int a.no:=rfl
 have hlen:(a.d.fld 2).l.length=a.cs.length:=by simp[TAsk.d]
 have hd2:(a.d.fld 2).l=a.cs.map TChg.d:=rfl
 rw[f0,f1,hlen]
 have h1:=z3U hc0'.1 hc0'.2
 have h2:=z3U hn0'.1 hn0'.2
 refine z03 (zMa hc0'.1 hc0'.2) (z0G (z72 ?_) (z03 (zMa hn0'.1 hn0'.2) (z0G (z72 ?_) (z0L (z2Q (fun i (s:List UInt8)=>[.str s,.int i]) a.cs.length a.textAt (t:=0) (o:=[.str (a.textAt a.cs.length)]) rfl ?_ ?_) rfl))))
 ·simp only[D.s_str,List.length_singleton]; omega
 ·simp only[D.s_str,List.length_append,List.length_singleton]; omega
 ·intro i hi;have hg:gd (a.cs.map TChg.d) i=a.cs[i].d:=zKB hi;have hsz:=hx _ (List.getElem_mem hi);have hl1:=TAsk.text_len hc0' hn0' hx i (Nat.le_of_lt hi);have hl2:=TChg.text_len hsz;have hl3:=Rec.text_len hsz.r;have hl4:=z3U hsz.k0 hsz.k1;refine z01 (by simpa using hi) (z01 (by simpa using z0B hi) ?_);have e0:(gd [D.str (a.textAt i),D.int (i:Int)] 1).i.toNat=i:=by simp
  have e1:(gd [D.str (a.textAt i),D.int (i:Int)] 1).i=i:=rfl;have e2:(gd [D.str (a.textAt i),D.int (i:Int)] 0).s=a.textAt i:=rfl;have g0:a.cs[i].d.fld 0=.int a.cs[i].kind:=rfl;have g1:a.cs[i].d.fld 1=a.cs[i].rc.d:=rfl;rw[e0,e1,e2,hd2,hg,g0,g1,z0P hi hsm];refine z04 (zMa hsz.k0 hsz.k1) (z01 (z72 ?_) (z01 (z72 ?_) (z04 (zNb hsz.r) (z01 (z72 ?_) (z01 (z72 ?_) ?_)))))
  ·simp only[D.s_str,List.length_singleton]; omega
  ·simp only[D.s_str,List.length_append,List.length_singleton]; omega
  ·simp only[D.s_str,List.length_append,List.length_singleton]; omega
  ·simp only[D.s_str,List.length_append,List.length_singleton]; omega
  ·rw[TAsk.textAt,z0E hi]; rfl
 ·exact z00 (by simp) rfl
def zFE (a:TAsk):D:=if a.ok=true then .pair (.str (a.textAt a.cs.length)) (.pair (.bool true) .unit)else .pair (.str []) (.pair (.bool false) .unit)
theorem zDc {a:TAsk} (ha:a.In lim):z30.F [a.d]=some (zFE a):=by
 rw[zEf]
 have f0:a.d.fld 0=.int a.client:=rfl
 have f1:a.d.fld 1=.int a.no:=rfl
 have f2:a.d.fld 2=.lst (a.cs.map TChg.d):=rfl
 rw[f0,f1,f2]
 have h1:=zM8 a.client a.no
 have h2:=zIg ha.len ha.all
 refine z06 (l:=[.bool !a.ok]) ?_ ?_
 ·unfold TAsk.ok TAsk.who
  cases k1:(inP a.client 0 100&&inP a.no 1 1000)with
  | false=>rw[k1]at h1; exact z04 h1 (z01 rfl rfl)
  | true=>rw[k1]at h1; exact z04 h1 (z00 (by simp) (z04 h2 (by simp)))
 ·unfold zFE
  cases hok:a.ok with
  | false=>exact z0G rfl rfl
  | true=>exact z05 (by simp) (z03 (zK9 hok) rfl)
theorem zDd {a:TAsk} (ha:a.In lim):z33.F [a.d]=some (zFE a):=by
 rw[zEp]
 have f0:a.d.fld 0=.int a.client:=rfl
 have f1:a.d.fld 1=.int a.no:=rfl
 have f2:a.d.fld 2=.lst (a.cs.map TChg.d):=rfl
 rw[f0,f1,f2]
 have h1:=zP4 a.client a.no
 have h2:=zOA ha.len ha.all
 refine z06 (l:=[.bool !a.ok]) ?_ ?_
 ·unfold TAsk.ok TAsk.who
  cases k1:(inP a.client 0 100&&inP a.no 1 1000)with
  | false=>rw[k1]at h1; exact z04 h1 (z01 rfl rfl)
  | true=>rw[k1]at h1; exact z04 h1 (z00 (by simp) (z04 h2 (by simp)))
 ·unfold zFE
  cases hok:a.ok with
  | false=>exact z0G rfl rfl
  | true=>exact z05 (by simp) (z03 (zO9 hok) rfl)
end Go.Proofs.YtilejnnnkfjmmaaGreatDoor
namespace Go.Proofs.YtilejnnnkfjmmaaGreatDoor
open Go Go.Own
theorem zKC (b:UInt8):∀p q:List UInt8,splB b (p++b::q)=splB b p++splB b q
 | [],q=>by simp[splB]
 | c::p,q=>by
   have ih:=zKC b p q;rw[List.cons_append,splB,splB];by_cases hc:c=b
   ·rw[if_pos hc,if_pos hc,ih]; rfl
   ·rw[if_neg hc,if_neg hc,ih]
    cases h:splB b p with
    | nil=>exact absurd h (z6w b p)
    | cons x xs=>rfl
theorem zBQ {u v:Int} (hu:0<=u) (hv:0<=v) (h:Lib.itoa u=Lib.itoa v):u=v:=by
 obtain⟨n,rfl⟩:=Int.eq_ofNat_of_zero_le hu
 obtain⟨m,rfl⟩:=Int.eq_ofNat_of_zero_le hv
 rw[z62,z62]at h
 have:=congrArg dv h
 rw[z5e,z5e]at this
 omega
theorem Rec.text_inj {r r':Rec} (h:r.ok=true) (h':r'.ok=true) (he:r.text=r'.text):r=r':=by
 have h1:=Rec.text_splitN h
 rw[he,Rec.text_splitN h']at h1
 simp only[List.cons.injEq,and_true]at h1
 obtain⟨e1,e2,e3,e4⟩:=h1
 obtain⟨k1,k2,k3,k4⟩:=r.parts_ok h
 obtain⟨j1,j2,j3,j4⟩:=r'.parts_ok h'
 have kt:=zDx h
 have jt:=zDx h'
 have n1:=zFC k1
 have n2:=zFC j1
 rw[e1]at n2
 rw[n1]at n2
 obtain⟨a,b,c,d⟩:=r
 obtain⟨a',b',c',d'⟩:=r'
 simp only at n2 e4
 have e5:=zBQ j3 k3 e2
 have e6:=zBQ jt.1 kt.1 e3
 simp only at e5 e6
 rw[n2,e4,e5,e6]
open Classical in
noncomputable def z3M (s:List UInt8):Option Rec:=if h:∃r:Rec,r.ok=true/\r.text=s then some h.choose else none
theorem zFH (s:List UInt8):z8n s=match z3M s with | some r=>zDv r | none=>zQJ:=by
 unfold z8n z3M
 by_cases h:∃r:Rec,r.ok=true/\r.text=s
 ·rw[dif_pos h,dif_pos h]
 ·rw[dif_neg h,dif_neg h]
theorem zDe {s:List UInt8} {r:Rec} (h:z3M s=some r):r.ok=true:=by
 unfold z3M at h
 split at h
 ·rename_i h1
  cases h
  exact h1.choose_spec.1
 ·cases h
theorem zAQ {r:Rec} (h:r.ok=true):z3M r.text=some r:=by
 unfold z3M
 have h1:∃r':Rec,r'.ok=true/\r'.text=r.text:=⟨r,h,rfl⟩
 rw[dif_pos h1]
 exact congrArg some (Rec.text_inj h1.choose_spec.1 h h1.choose_spec.2)
def TChg.line (c:TChg):List UInt8:=Lib.itoa c.kind++32::c.rc.text
def TAsk.head (a:TAsk):List UInt8:=Lib.itoa a.client++32::Lib.itoa a.no
def TAsk.full (a:TAsk):List UInt8:=a.textAt a.cs.length
theorem TChg.kind_in {c:TChg} (h:c.ok=true):1<=c.kind/\c.kind<=4/\c.rc.ok=true:=by
 unfold TChg.ok at h
 simp only[Bool.and_eq_true,inP,decide_eq_true_eq]at h
 exact⟨h.1.1,h.1.2,h.2.1⟩
theorem TChg.line_no {c:TChg} (h:c.ok=true):(10:UInt8)∉c.line:=by
 obtain⟨h1,h2,h3⟩:=TChg.kind_in h
 unfold TChg.line
 simp only[List.mem_append,List.mem_cons,not_or]
 exact⟨z4O (by decide) (by omega),by decide,Rec.text_no h3⟩
structure TAsk.Ins (a:TAsk):Prop where
 c0:0<=a.client
 c1:a.client<=100
 n0:1<=a.no
 n1:a.no<=1000
 all:∀c∈a.cs,c.ok=true
 len:a.cs.length<=12
theorem TAsk.ins {a:TAsk} (h:a.ok=true):a.Ins:=by
 unfold TAsk.ok TAsk.who at h
 simp only[Bool.and_eq_true,inP,decide_eq_true_eq,List.all_eq_true]at h
 obtain⟨⟨h1,h2⟩,h3,h4⟩:=h
 exact⟨h1.1,h1.2,h2.1,h2.2,h3,h4⟩
theorem TAsk.head_no {a:TAsk} (h:a.Ins):(10:UInt8)∉a.head:=by
 unfold TAsk.head
 simp only[List.mem_append,List.mem_cons,not_or]
 exact⟨z4O (by decide) h.c0,by decide,z4O (by decide) (by have:=h.n0; omega)⟩
theorem TAsk.split_at {a:TAsk} (h:a.Ins):∀n,n<=a.cs.length->splB 10 (a.textAt n)=a.head::(a.cs.take n).map TChg.line
 | 0,_=>by
   have:a.textAt 0=a.head:=by simp[TAsk.textAt,TAsk.head]
   rw[this,z3n (TAsk.head_no h)]; rfl
 | n+1,hn=>by
   have hc:a.cs[n].ok=true:=h.all _ (List.getElem_mem (by omega));have e:a.textAt (n+1)=a.textAt n++10::a.cs[n].line:=by
    rw[TAsk.textAt,z0E (by omega)]; simp[TChg.text,TChg.line]
   rw[e,zKC,TAsk.split_at h n (by omega),z3n (TChg.line_no hc),List.take_succ_eq_append_getElem (by omega),List.map_append]; rfl
theorem TAsk.split_full {a:TAsk} (h:a.Ins):splB 10 a.full=a.head::a.cs.map TChg.line:=by
 unfold TAsk.full
 rw[TAsk.split_at h _ (Nat.le_refl _),List.take_length]
def TAsk.nul:TAsk:=⟨0,0,[]⟩
def zP3:D:=.pair TAsk.nul.d (.pair (.bool false) .unit)
def zFD (a:TAsk):D:=.pair a.d (.pair (.bool true) .unit)
open Classical in
noncomputable def z7a (s:List UInt8):D:=if h:∃a:TAsk,a.ok=true/\a.full=s then zFD h.choose else zP3
theorem z71 {s:List UInt8} (h:∀a:TAsk,a.ok=true->a.full≠s):z7a s=zP3:=by
 unfold z7a
 exact dif_neg fun⟨r,h1,h2⟩=>h r h1 h2
theorem zND {s:List UInt8} {a0:TAsk} (h:∀a:TAsk,a.ok=true->a.full=s->a=a0):(if (!(a0.ok&&(a0.full==s)))=true then zP3 else zFD a0)=z7a s:=by
 unfold z7a
 by_cases h0:∃a:TAsk,a.ok=true/\a.full=s
 ·obtain⟨h1,h2⟩:=h0.choose_spec;have h3:=h _ h1 h2;rw[dif_pos h0,h3,if_neg];rw[<- h3]; simp[h1,h2]
 ·rw[dif_neg h0,if_pos];rw[Bool.not_eq_true',Bool.and_eq_false_iff];by_cases h2:a0.ok=true
  ·exact .inr (by rw[beq_eq_false_iff_ne]; exact fun h3=>h0 ⟨a0,h2,h3⟩)
  ·exact .inl (by simpa using h2)
def zAP (pl:List UInt8->Option TChg) (_:Nat) (cs:List TChg) (t:List UInt8):Sum (List TChg) (Nat×List D):=match pl t with
 | some c=>.inl (cs++[c])
 | none=>.inr (0,[TAsk.nul.d])
theorem z7A {pl:List UInt8->Option TChg}:∀(ts:List (List UInt8)) (i:Nat) (cs:List TChg),z8a (zAP pl) i cs ts=(match ts.mapM pl with | some l=>.inl (cs++l) | none=>.inr (0,[TAsk.nul.d]))
 | [],i,cs=>by simp[z8a]
 | t::ts,i,cs=>by
   rw[z8a,List.mapM_cons]
   cases h:pl t with
   | none=>
     have hg:zAP pl i cs t=.inr (0,[TAsk.nul.d]):=by unfold zAP; rw[h]
     rw[hg]; rfl
   | some c=>
     have hg:zAP pl i cs t=.inl (cs++[c]):=by unfold zAP; rw[h]
     have ih:=z7A (pl:=pl) ts (i+1) (cs++[c]);rw[hg];show z8a (zAP pl) (i+1) (cs++[c]) ts=_;rw[ih]
     cases ts.mapM pl with
     | none=>rfl
     | some l=>simp
theorem z7B {pl:List UInt8->Option TChg}:∀{cs:List TChg},(∀c∈cs,pl c.line=some c)->(cs.map TChg.line).mapM pl=some cs
 | [],_=>rfl
 | c::cs,h=>by
   rw[List.map_cons,List.mapM_cons,h c (by simp),z7B (fun x hx=>h x (by simp[hx]))]; rfl
theorem zFF {pl:List UInt8->Option TChg}:∀{ts:List (List UInt8)} {l:List TChg},ts.mapM pl=some l->l.length=ts.length/\∀c∈l,∃t∈ts,pl t=some c
 | [],l,h=>by
   simp at h; subst h; simp
 | t::ts,l,h=>by
   rw[List.mapM_cons]at h
   cases h1:pl t with
   | none=>rw[h1]at h; cases h
   | some c=>
     cases h2:ts.mapM pl with
     | none=>rw[h1,h2]at h; cases h
     | some l'=>
       rw[h1,h2]at h;have:l=c::l':=(Option.some.inj h).symm;subst this;obtain⟨h3,h4⟩:=zFF h2;refine⟨by simp[h3],fun x hx=>?_⟩;simp only[List.mem_cons]at hx;rcases hx with rfl | hx
       ·exact⟨t,by simp,h1⟩
       ·obtain⟨t',h5,h6⟩:=h4 x hx;exact⟨t',by simp[h5],h6⟩
noncomputable def TplS (t:List UInt8):Option TChg:=if t.length<2 then none else(z3M (t.drop 2)).map fun r=>⟨z2E (t.take 1),r⟩
noncomputable def TplI (t:List UInt8):Option TChg:=(z3M (Lib.cut t [32]).2.1).map fun r=>⟨((z7w (Lib.cut t [32]).1).fld 0).i,r⟩
theorem zQr {u:Int} (h0:1<=u) (h1:u<=4):∃c,Lib.itoa u=[c]:=by
 obtain⟨n,rfl⟩:=Int.eq_ofNat_of_zero_le (show 0<=u by omega)
 rw[z62,Lib.decDigits_one (by omega)]
 exact⟨_,rfl⟩
theorem zFG {c:TChg} (h:c.ok=true):TplS c.line=some c:=by
 obtain⟨h1,h2,h3⟩:=TChg.kind_in h
 obtain⟨d,hd⟩:=zQr h1 h2
 have hi:=z8C (v:=c.kind) (by omega) (by omega)
 unfold TplS TChg.line
 rw[hd]at hi |-
 rw[if_neg (by simp)]
 show(z3M c.rc.text).map _=_
 rw[zAQ h3]
 show some (TChg.mk (z2E [d]) c.rc)=some c
 rw[hi]
theorem zP6 {c:TChg} (h:c.ok=true):TplI c.line=some c:=by
 obtain⟨h1,h2,h3⟩:=TChg.kind_in h
 unfold TplI TChg.line
 rw[z8W (z4O (by decide) (by omega))]
 simp only
 rw[zAQ h3,z95 (by omega) (by omega)]
 rfl
theorem zSI {t:List UInt8} {c:TChg} (h:TplS t=some c):c.rc.ok=true:=by
 unfold TplS at h
 split at h
 ·cases h
 ·cases hr:z3M (t.drop 2)with
  | none=>rw[hr]at h; cases h
  | some r=>rw[hr]at h; cases h; exact zDe hr
theorem zSH {t:List UInt8} {c:TChg} (h:TplI t=some c):c.rc.ok=true:=by
 unfold TplI at h
 cases hr:z3M (Lib.cut t [32]).2.1 with
 | none=>rw[hr]at h; cases h
 | some r=>rw[hr]at h; cases h; exact zDe hr
theorem zP7 {r:Rec} (h:r.ok=true):r.In lim:=by
 have hlim:lim=1048576:=rfl
 have h1:=Rec.sizes h
 refine⟨?_,by have:=h1.data; omega⟩
 have:=h1.name
 unfold told at this
 split at this
 ·rename_i he;rw[List.isEmpty_iff.1 he]; simp
 ·omega
theorem zNF {ts:List (List UInt8)} {i:Nat} (h:i<ts.length):gd (D.lst (ts.map D.str)).l i=.str ts[i]:=z7f h
theorem zP5 {s:List UInt8} (h:s.length<=lim) (b:UInt8):z1A.F [.str s,.str [b]]=some (.lst ((splB b s).map .str)):=by
 rw[show z1A.F=zH4 from by unfold z1A zIa; rfl]
 unfold zH4
 have hlim:lim=1048576:=rfl
 refine(if_pos ⟨by simp; omega,by simp⟩).trans ?_
 simp[zIc]
theorem Tf_specReadAsked {s:List UInt8} (hl:s.length<=lim):z4a.F [.str s]=some (z7a s):=by
 have hlim:lim=1048576:=rfl
 rw[zEr]
 have hsp:=z6c s 10 hl
 have hmem:=z6F 10 s
 have hsl:=z6Y 10 s
 refine z03 hsp ?_
 obtain⟨h0,ts,hs⟩:∃h0 ts,splB 10 s=h0::ts:=by
  cases h:splB 10 s with
  | nil=>exact absurd h (z6w 10 s)
  | cons a b=>exact⟨a,b,rfl⟩
 rw[hs]at hmem hsl |-
 simp only[List.length_cons]at hsl
 have hll:(D.lst ((h0::ts).map D.str)).l=D.str h0::ts.map D.str:=rfl
 rw[hll]
 have hlen:(D.str h0::ts.map D.str).length=ts.length+1:=by simp
 rw[hlen]
 have hh0:=hmem h0 (by simp)
 have hsp2:=z6c h0 32 (by omega)
 have hmem2:=z6F 32 h0
 refine z0G (z5z (by decide) (by omega)) (z03 hsp2 ?_)
 have hl2:(D.lst ((splB 32 h0).map D.str)).l=(splB 32 h0).map D.str:=rfl
 rw[hl2,List.length_map]
 by_cases h2:(splB 32 h0).length=2
 case neg=>
  refine z0G (by simp; omega) ?_;rw[z71]
  ·rfl
  ·rintro a h1 rfl;have hi:=TAsk.ins h1;have:=TAsk.split_full hi;rw[hs]at this;have e:=(List.cons.inj this).1;rw[e,TAsk.head,z56 (z4O (by decide) hi.c0),z3n (z4O (by decide) (by have:=hi.n0; omega))]at h2;exact h2 rfl
 obtain⟨p,q,hpq⟩:∃p q,splB 32 h0=[p,q]:=by
  match h:splB 32 h0 with
  | []=>rw[h]at h2; simp at h2
  | [a]=>rw[h]at h2; simp at h2
  | [a,b]=>exact⟨a,b,rfl⟩
  | a::b::c::l=>rw[h]at h2; simp at h2
 rw[hpq]at hmem2 |-
 have hp:=hmem2 p (by simp)
 have hq:=hmem2 q (by simp)
 refine z05 (by simp) (z0G (z5z (by decide) (by simp)) (z03 (z7K (s:=p) (by omega)) (z0G (z5z (by decide) (by simp)) (z03 (z7K (s:=q) (by omega)) (z0G (by simp[slOk]; omega) ?_)))))
 have htl:((D.str h0::ts.map D.str).take (((ts.length+1:Nat):Int)).toNat).drop 1=ts.map D.str:=by
  rw[Int.toNat_natCast,<- hlen,List.take_length]; rfl
 rw[htl,List.length_map]
 have hsm:ts.length<=smax:=by rw[z0c]; omega
 have hall:∀a:TAsk,a.ok=true->a.full=s->ts.mapM TplS=some a.cs/\z2E p=a.client/\z2E q=a.no:=by
  rintro a h1 rfl;have hi:=TAsk.ins h1;have:=TAsk.split_full hi;rw[hs]at this;obtain⟨e,e2⟩:=List.cons.inj this;subst e2;rw[e,TAsk.head,z56 (z4O (by decide) hi.c0),z3n (z4O (by decide) (by have:=hi.n0; omega))]at hpq;simp only[List.cons.injEq,and_true]at hpq;rw[<- hpq.1,<- hpq.2,z8C hi.c0 (by have:=hi.c1; omega),z8C (by have:=hi.n0; omega) (by have:=hi.n1; omega)];exact⟨z7B fun c hc=>zFG (hi.all c hc),rfl,rfl⟩
 refine zMz (z7N (T:=1) (out:=fun cs:List TChg=>[(⟨z2E p,z2E q,cs⟩:TAsk).d]) (fun i (cs:List TChg)=>[(⟨z2E p,z2E q,cs⟩:TAsk).d,.int i]) ts (zAP TplS) (fun i cs=>cs.length=i) [] rfl rfl ?_ ?_) ?_ ?_
 ·rintro i cs hi hci;have hw:=z0P hi hsm;have hti:=hmem ts[i] (by simp);have e0:(gd [(⟨z2E p,z2E q,cs⟩:TAsk).d,D.int (i:Int)] 1).i.toNat=i:=by simp
  have e1:(gd [(⟨z2E p,z2E q,cs⟩:TAsk).d,D.int (i:Int)] 1).i=i:=rfl;have e2:gd [(⟨z2E p,z2E q,cs⟩:TAsk).d,D.int (i:Int)] 0=(⟨z2E p,z2E q,cs⟩:TAsk).d:=rfl;rw[e0,e1,e2,zNF hi,hw];simp only[D.s_str,Int.toNat_natCast,List.take_length];unfold zAP;have hrr:=zE3 (s:=ts[i].drop 2) (by simp; omega);rw[zFH]at hrr;by_cases h2l:ts[i].length<2
  ·have:TplS ts[i]=none:=if_pos h2l;rw[this];exact z01 (by simpa using hi) (z01 (z0B hi) (z01 (decide_eq_true (by omega)) rfl))
  ·have hpl:TplS ts[i]=(z3M (ts[i].drop 2)).map fun r=>⟨z2E (ts[i].take 1),r⟩:=if_neg h2l;rw[hpl]
   cases hro:z3M (ts[i].drop 2)with
   | none=>
     rw[hro]at hrr;exact z01 (by simpa using hi) (z01 (z0B hi) (z00 (fun h=>h2l (by have:=of_decide_eq_true h; omega)) (z01 (by simp[slOk]; omega) (z04 hrr (z01 rfl rfl)))))
   | some r=>
     rw[hro]at hrr;refine⟨z01 (by simpa using hi) (z01 (z0B hi) (z00 (fun h=>h2l (by have:=of_decide_eq_true h; omega)) (z01 (by simp[slOk]; omega) (z04 hrr (z00 (by simp[zDv]) (z01 (by simp[slOk]; omega) (z04 (z7K (s:=(ts[i].take 1).drop 0) (by simp; omega)) (z01 ?_ ?_)))))))),by simp[hci]⟩
     ·simp[appOk,TAsk.d,z0c]; omega
     ·simp[TAsk.d,TChg.d,zDv]
 ·intro cs _;exact z00 (by simp) rfl
 ·intro cs hf;rw[z7A]at hf
  cases hm:ts.mapM TplS with
  | none=>rw[hm]at hf; cases hf
  | some l=>
    rw[hm]at hf;simp only[List.nil_append,Sum.inl.injEq]at hf;subst hf;obtain⟨k1,k2⟩:=zFF hm;have hin:(⟨z2E p,z2E q,l⟩:TAsk).In lim:=⟨by show l.length<=lim; omega,fun c hc=>let ⟨t,_,h⟩:=k2 c hc; zP7 (zSI h)⟩;have key:∀a:TAsk,a.ok=true->a.full=s->a=⟨z2E p,z2E q,l⟩:=by
     intro a h1 h2;obtain⟨e1,e2,e3⟩:=hall a h1 h2;rw[hm]at e1;rw[e2,e3,Option.some.inj e1]
    generalize (⟨z2E p,z2E q,l⟩:TAsk)=a0 at hin key |-;have hk:=zDd hin;rw[<- zND key];simp only[zF9,z9h,zLm,z16];refine z03 hk (z06 (l:=[.bool (!(a0.ok&&(a0.full==s)))]) ?_ ?_)
    ·unfold zFE TAsk.full
     cases h1:a0.ok with
     | false=>exact z01 rfl rfl
     | true=>exact z00 (by simp) (by simp)
    ·simp only[z16,D.b_bool]
     cases (!(a0.ok&&(a0.full==s))) <;> rfl
 ·intro e hf;rw[z7A]at hf
  cases hm:ts.mapM TplS with
  | some l=>rw[hm]at hf; cases hf
  | none=>
    rw[hm]at hf
    cases hf
    rw[z71]
    ·rfl
    ·intro a h1 h2;obtain⟨e1,_⟩:=hall a h1 h2;rw[hm]at e1; cases e1
theorem zNE (t:List UInt8):(Lib.cut t [32]).1.length<=t.length/\(Lib.cut t [32]).2.1.length<=t.length:=zNS t [32]
theorem zDz {s:List UInt8} (hl:s.length<=lim):z2G.F [.str s]=some (z7a s):=by
 have hlim:lim=1048576:=rfl
 rw[zEh]
 have hsp:=zP5 hl 10
 have hmem:=z6F 10 s
 have hsl:=z6Y 10 s
 refine z03 hsp ?_
 obtain⟨h0,ts,hs⟩:∃h0 ts,splB 10 s=h0::ts:=by
  cases h:splB 10 s with
  | nil=>exact absurd h (z6w 10 s)
  | cons a b=>exact⟨a,b,rfl⟩
 rw[hs]at hmem hsl |-
 simp only[List.length_cons]at hsl
 have hll:(D.lst ((h0::ts).map D.str)).l=D.str h0::ts.map D.str:=rfl
 rw[hll]
 have hlen:(D.str h0::ts.map D.str).length=ts.length+1:=by simp
 rw[hlen]
 have hh0:=hmem h0 (by simp)
 by_cases h13:ts.length+1 > 13
 ·refine z0G (decide_eq_true (by omega)) ?_;rw[z71]
  ·rfl
  ·rintro a h1 rfl;have hi:=TAsk.ins h1;have:=TAsk.split_full hi;rw[hs]at this;have e:=(List.cons.inj this).2;have:=hi.len;rw[e,List.length_map]at h13;omega
 have hcl:=zNE h0
 have hsm:ts.length<=smax:=by rw[z0c]; omega
 refine z05 (fun h=>h13 (by have:=of_decide_eq_true h; omega)) (z0G (z5z (by decide) (by omega)) (z03 (zPY (s:=h0) (by omega)) (z03 (zI8 (s:=(Lib.cut h0 [32]).1) (by omega)) (z03 (zI8 (s:=(Lib.cut h0 [32]).2.1) (by omega)) (z0G (by simp[slOk]; omega) ?_)))))
 have htl:((D.str h0::ts.map D.str).take (((ts.length+1:Nat):Int)).toNat).drop 1=ts.map D.str:=by
  rw[Int.toNat_natCast,<- hlen,List.take_length]; rfl
 rw[htl,List.length_map]
 obtain⟨u,eu,hu⟩:=z84 (Lib.cut h0 [32]).1
 obtain⟨v,ev,hv⟩:=z84 (Lib.cut h0 [32]).2.1
 have hall:∀a:TAsk,a.ok=true->a.full=s->ts.mapM TplI=some a.cs/\u=a.client/\v=a.no:=by
  rintro a h1 rfl;have hi:=TAsk.ins h1;have:=TAsk.split_full hi;rw[hs]at this;obtain⟨e,e2⟩:=List.cons.inj this;subst e2;rw[e,TAsk.head,z8W (z4O (by decide) hi.c0)]at hu hv;simp only at hu hv;rw[z95 hi.c0 (by have:=hi.c1; omega)]at hu;rw[z95 (by have:=hi.n0; omega) (by have:=hi.n1; omega)]at hv;simp only[D.pair.injEq,D.int.injEq]at hu hv;exact⟨z7B fun c hc=>zP6 (hi.all c hc),hu.1.symm,hv.1.symm⟩
 rw[hu,hv]
 refine zMz (z7N (T:=1) (out:=fun cs:List TChg=>[(⟨u,v,cs⟩:TAsk).d]) (fun i (cs:List TChg)=>[(⟨u,v,cs⟩:TAsk).d,.int i]) ts (zAP TplI) (fun i cs=>cs.length=i) [] rfl rfl ?_ ?_) ?_ ?_
 ·rintro i cs hi hci;have hw:=z0P hi hsm;have hti:=hmem ts[i] (by simp);have hct:=zNE ts[i];have e0:(gd [(⟨u,v,cs⟩:TAsk).d,D.int (i:Int)] 1).i.toNat=i:=by simp
  have e1:(gd [(⟨u,v,cs⟩:TAsk).d,D.int (i:Int)] 1).i=i:=rfl;have e2:gd [(⟨u,v,cs⟩:TAsk).d,D.int (i:Int)] 0=(⟨u,v,cs⟩:TAsk).d:=rfl;rw[e0,e1,e2,zNF hi,hw];unfold zAP;have hrr:=zE1 (s:=(Lib.cut ts[i] [32]).2.1) (by omega);rw[zFH]at hrr;have hpl:TplI ts[i]=(z3M (Lib.cut ts[i] [32]).2.1).map fun r=>⟨((z7w (Lib.cut ts[i] [32]).1).fld 0).i,r⟩:=rfl;obtain⟨n,en,hn⟩:=z84 (Lib.cut ts[i] [32]).1;have ha:=zI8 (s:=(Lib.cut ts[i] [32]).1) (by omega);rw[hpl];rw[hn]at ha |-
  cases hro:z3M (Lib.cut ts[i] [32]).2.1 with
  | none=>
    rw[hro]at hrr;exact z01 (by simpa using hi) (z01 (z0B hi) (z04 (zPY (by omega)) (z04 hrr (z01 rfl rfl))))
  | some r=>
    rw[hro]at hrr;refine⟨z01 (by simpa using hi) (z01 (z0B hi) (z04 (zPY (by omega)) (z04 hrr (z00 (by simp[zDv]) (z04 ha (z01 ?_ ?_)))))),by simp[hci]⟩
    ·simp[appOk,TAsk.d,z0c]; omega
    ·simp[TAsk.d,TChg.d,zDv]
 ·intro cs _;exact z00 (by simp) rfl
 ·intro cs hf;rw[z7A]at hf
  cases hm:ts.mapM TplI with
  | none=>rw[hm]at hf; cases hf
  | some l=>
    rw[hm]at hf;simp only[List.nil_append,Sum.inl.injEq]at hf;subst hf;obtain⟨k1,k2⟩:=zFF hm;have hin:(⟨u,v,l⟩:TAsk).In lim:=⟨by show l.length<=lim; omega,fun c hc=>let ⟨t,_,h⟩:=k2 c hc; zP7 (zSH h)⟩;have key:∀a:TAsk,a.ok=true->a.full=s->a=⟨u,v,l⟩:=by
     intro a h1 h2;obtain⟨e1,e2,e3⟩:=hall a h1 h2;rw[hm]at e1;rw[e2,e3,Option.some.inj e1]
    generalize (⟨u,v,l⟩:TAsk)=a0 at hin key |-;have hk:=zDc hin;rw[<- zND key];simp only[zF9,z9h,zLm,z16];refine z03 hk (z06 (l:=[.bool (!(a0.ok&&(a0.full==s)))]) ?_ ?_)
    ·unfold zFE TAsk.full
     cases h1:a0.ok with
     | false=>exact z01 rfl rfl
     | true=>exact z00 (by simp) (by simp)
    ·simp only[z16,D.b_bool]
     cases (!(a0.ok&&(a0.full==s))) <;> rfl
 ·intro e hf;rw[z7A]at hf
  cases hm:ts.mapM TplI with
  | some l=>rw[hm]at hf; cases hf
  | none=>
    rw[hm]at hf
    cases hf
    rw[z71]
    ·rfl
    ·intro a h1 h2;obtain⟨e1,_⟩:=hall a h1 h2;rw[hm]at e1; cases e1
end Go.Proofs.YtilejnnnkfjmmaaGreatDoor
