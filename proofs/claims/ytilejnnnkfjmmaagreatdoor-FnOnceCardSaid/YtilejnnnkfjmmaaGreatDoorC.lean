/- The functions that the law reaches, each as a program of expressions. -/
import Derived.Test.YtilejnnnkfjmmaaGreatDoorLb1
import Derived.Test.YtilejnnnkfjmmaaGreatDoorProg
import Derived.KernelRfl
import Derived.Test.YtilejnnnkfjmmaaGreatDoorLays
set_option linter.unusedSectionVars false
set_option linter.unusedVariables false
set_option linter.unusedSimpArgs false
namespace Go.Proofs.YtilejnnnkfjmmaaGreatDoor
open Go Go.Own
set_option maxRecDepth 100000
instance glbI : Glb := Glb.at [(0, zRK .i64), (1, zOU), (2, zOU), (5, zRJ (Lib.pow10Tab.map fun z => Value.int .u64 z).toArray)]
theorem zBb:∀h V,Glb.ok h V->∃m arr ty fz,h[Tryz.l146_ren.g 1]? = some (.cells arr ty fz)/\arr[0]? = some (.int .i64 m):=
 fun _ _ h=>zPl (h (0,zRK .i64) (by simp)).2
theorem zTE:∀h V,Glb.ok h V->∃ev arr ty fz,h[Tryz.l172_ren.g 15]? = some (.cells arr ty fz)/\arr[0]? = some ev/\(ev=.nilIface\/∃te pe,ev=.iface te pe):=
 fun _ _ h=>zL7 (h (1,zOU) (by simp)).2
theorem zTD:∀h V,Glb.ok h V->∃ev arr ty fz,h[Tryz.l172_ren.g 16]? = some (.cells arr ty fz)/\arr[0]? = some ev/\(ev=.nilIface\/∃te pe,ev=.iface te pe):=
 fun _ _ h=>zL7 (h (2,zOU) (by simp)).2
theorem zTC:∀h V,Glb.ok h V->∃ty fz,h[5]? = some (.cells (Lib.pow10Tab.map fun z=>Value.int .u64 z).toArray ty fz):=
 fun _ _ h=>zPk (h (5,zRJ (Lib.pow10Tab.map fun z=>Value.int .u64 z).toArray) (by simp)).2
abbrev tyR:T:=.pair .str (.pair (.int .i64) (.pair (.int .i64) (.pair .str .unit)))
abbrev tyD:T:=.pair (.int .i64) (.pair (.int .i64) (.pair (.int .i64) (.pair (.int .i64) .unit)))
abbrev tyRf:T:=.lst false tyR
abbrev tyRt:T:=.lst true tyR
abbrev tyZf:T:=.pair .str (.pair (.int .i64) (.pair tyRf .unit))
abbrev tyZt:T:=.pair .str (.pair (.int .i64) (.pair tyRt .unit))
def tysC:List (TypeId×T×Nat):=[(3,(.int .i64),0),(4,.bool,0),(5,(.int .u8),0),(9,.str,0),(22,(.lst true (.pair (.int .i64) (.pair tyR .unit))),56),(24,(.pair (.int .i64) (.pair (.int .i64) (.pair (.lst true (.pair (.int .i64) (.pair tyR .unit))) .unit))),0),(30,(.lst true (.int .u8)),1),(31,tyRt,48),(33,tyZt,0),(34,(.lst true tyD),32),(36,(.pair tyZt (.pair (.lst true tyD) (.pair (.int .i64) .unit))),0),(40,tyD,0),(47,(.lst true (.pair (.int .i64) (.pair (.int .i64) (.pair (.lst true (.pair (.int .i64) (.pair tyR .unit))) .unit)))),40),(57,tyR,0),(59,(.pair (.int .i64) (.pair tyR .unit)),0),(61,(.lst true .str),16),(70,.err,0),(76,(.int .u64),0),(78,(.pair (.lst true (.int .u8)) (.pair (.int .i64) (.pair (.int .u64) .unit))),0),(105,(.lst true (.int .i64)),8),(147,(.int .u64),0)]
theorem envC:∀sig n fx fr,EnvOk Tryz.prog ⟨tyOf tysC,ebOf tysC,sig,n,fx,fr⟩:=by
 refine EnvOk.ofL (fun sig n fx fr t ht=>?_) (by kernel_rfl)
 simp only[tysC,List.map_cons,List.map_nil,List.mem_cons]at ht
 rcases ht with rfl | ht
 ·exact⟨Tryz.underlying3,rfl,by kernel_rfl,by kernel_rfl⟩
 rcases ht with rfl | ht
 ·exact⟨Tryz.underlying4,rfl,by kernel_rfl,by kernel_rfl⟩
 rcases ht with rfl | ht
 ·exact⟨Tryz.underlying5,rfl,by kernel_rfl,by kernel_rfl⟩
 rcases ht with rfl | ht
 ·exact⟨Tryz.underlying9,rfl,by kernel_rfl,by kernel_rfl⟩
 rcases ht with rfl | ht
 ·exact⟨⟨rfl,_,Tryz.underlying22,rfl,rfl,by kernel_rfl⟩,rfl,by kernel_rfl,by kernel_rfl⟩
 rcases ht with rfl | ht
 ·exact⟨⟨_,Tryz.underlying24,rfl,rfl,rfl,rfl,rfl,rfl,rfl,rfl,rfl,trivial⟩,rfl,by kernel_rfl,by kernel_rfl⟩
 rcases ht with rfl | ht
 ·exact⟨⟨rfl,_,Tryz.underlying30,rfl,rfl,by kernel_rfl⟩,rfl,by kernel_rfl,by kernel_rfl⟩
 rcases ht with rfl | ht
 ·exact⟨⟨rfl,_,Tryz.underlying31,rfl,rfl,by kernel_rfl⟩,rfl,by kernel_rfl,by kernel_rfl⟩
 rcases ht with rfl | ht
 ·exact⟨⟨_,Tryz.underlying33,rfl,rfl,rfl,rfl,rfl,rfl,rfl,rfl,rfl,trivial⟩,rfl,by kernel_rfl,by kernel_rfl⟩
 rcases ht with rfl | ht
 ·exact⟨⟨rfl,_,Tryz.underlying34,rfl,rfl,by kernel_rfl⟩,rfl,by kernel_rfl,by kernel_rfl⟩
 rcases ht with rfl | ht
 ·exact⟨⟨_,Tryz.underlying36,rfl,rfl,rfl,rfl,rfl,rfl,rfl,rfl,rfl,trivial⟩,rfl,by kernel_rfl,by kernel_rfl⟩
 rcases ht with rfl | ht
 ·exact⟨⟨_,Tryz.underlying40,rfl,rfl,rfl,rfl,rfl,rfl,rfl,rfl,rfl,rfl,rfl,rfl,trivial⟩,rfl,by kernel_rfl,by kernel_rfl⟩
 rcases ht with rfl | ht
 ·exact⟨⟨rfl,_,Tryz.underlying47,rfl,rfl,by kernel_rfl⟩,rfl,by kernel_rfl,by kernel_rfl⟩
 rcases ht with rfl | ht
 ·exact⟨⟨_,Tryz.underlying57,rfl,rfl,rfl,rfl,rfl,rfl,rfl,rfl,rfl,rfl,rfl,rfl,trivial⟩,rfl,by kernel_rfl,by kernel_rfl⟩
 rcases ht with rfl | ht
 ·exact⟨⟨_,Tryz.underlying59,rfl,rfl,rfl,rfl,rfl,rfl,trivial⟩,rfl,by kernel_rfl,by kernel_rfl⟩
 rcases ht with rfl | ht
 ·exact⟨⟨rfl,_,Tryz.underlying61,rfl,rfl,by kernel_rfl⟩,rfl,by kernel_rfl,by kernel_rfl⟩
 rcases ht with rfl | ht
 ·exact⟨⟨_,Tryz.underlying70⟩,rfl,by kernel_rfl,by kernel_rfl⟩
 rcases ht with rfl | ht
 ·exact⟨Tryz.underlying76,rfl,by kernel_rfl,by kernel_rfl⟩
 rcases ht with rfl | ht
 ·exact⟨⟨_,Tryz.underlying78,rfl,rfl,rfl,rfl,rfl,rfl,rfl,rfl,rfl,trivial⟩,rfl,by kernel_rfl,by kernel_rfl⟩
 rcases ht with rfl | ht
 ·exact⟨⟨rfl,_,Tryz.underlying105,rfl,rfl,by kernel_rfl⟩,rfl,by kernel_rfl,by kernel_rfl⟩
 rcases ht with rfl | ht
 ·exact⟨Tryz.underlying147,rfl,by kernel_rfl,by kernel_rfl⟩
 cases ht
def tysZ:List (TypeId×T×Nat):=[(3,(.int .i64),0),(4,.bool,0),(5,(.int .u8),0),(9,.str,0),(22,(.lst false (.pair (.int .i64) (.pair tyR .unit))),56),(24,(.pair (.int .i64) (.pair (.int .i64) (.pair (.lst false (.pair (.int .i64) (.pair tyR .unit))) .unit))),0),(30,(.lst true (.int .u8)),1),(31,tyRf,48),(33,tyZf,0),(34,(.lst true tyD),32),(36,(.pair tyZf (.pair (.lst true tyD) (.pair (.int .i64) .unit))),0),(40,tyD,0),(47,(.lst true (.pair (.int .i64) (.pair (.int .i64) (.pair (.lst false (.pair (.int .i64) (.pair tyR .unit))) .unit)))),40),(57,tyR,0),(59,(.pair (.int .i64) (.pair tyR .unit)),0),(61,(.lst true .str),16),(70,.err,0),(76,(.int .u64),0),(78,(.pair (.lst true (.int .u8)) (.pair (.int .i64) (.pair (.int .u64) .unit))),0),(105,(.lst true (.int .i64)),8),(147,(.int .u64),0)]
theorem envZ:∀sig n fx fr,EnvOk Tryz.prog ⟨tyOf tysZ,ebOf tysZ,sig,n,fx,fr⟩:=by
 refine EnvOk.ofL (fun sig n fx fr t ht=>?_) (by kernel_rfl)
 simp only[tysZ,List.map_cons,List.map_nil,List.mem_cons]at ht
 rcases ht with rfl | ht
 ·exact⟨Tryz.underlying3,rfl,by kernel_rfl,by kernel_rfl⟩
 rcases ht with rfl | ht
 ·exact⟨Tryz.underlying4,rfl,by kernel_rfl,by kernel_rfl⟩
 rcases ht with rfl | ht
 ·exact⟨Tryz.underlying5,rfl,by kernel_rfl,by kernel_rfl⟩
 rcases ht with rfl | ht
 ·exact⟨Tryz.underlying9,rfl,by kernel_rfl,by kernel_rfl⟩
 rcases ht with rfl | ht
 ·exact⟨⟨rfl,_,Tryz.underlying22,rfl,rfl,by kernel_rfl⟩,rfl,by kernel_rfl,by kernel_rfl⟩
 rcases ht with rfl | ht
 ·exact⟨⟨_,Tryz.underlying24,rfl,rfl,rfl,rfl,rfl,rfl,rfl,rfl,rfl,trivial⟩,rfl,by kernel_rfl,by kernel_rfl⟩
 rcases ht with rfl | ht
 ·exact⟨⟨rfl,_,Tryz.underlying30,rfl,rfl,by kernel_rfl⟩,rfl,by kernel_rfl,by kernel_rfl⟩
 rcases ht with rfl | ht
 ·exact⟨⟨rfl,_,Tryz.underlying31,rfl,rfl,by kernel_rfl⟩,rfl,by kernel_rfl,by kernel_rfl⟩
 rcases ht with rfl | ht
 ·exact⟨⟨_,Tryz.underlying33,rfl,rfl,rfl,rfl,rfl,rfl,rfl,rfl,rfl,trivial⟩,rfl,by kernel_rfl,by kernel_rfl⟩
 rcases ht with rfl | ht
 ·exact⟨⟨rfl,_,Tryz.underlying34,rfl,rfl,by kernel_rfl⟩,rfl,by kernel_rfl,by kernel_rfl⟩
 rcases ht with rfl | ht
 ·exact⟨⟨_,Tryz.underlying36,rfl,rfl,rfl,rfl,rfl,rfl,rfl,rfl,rfl,trivial⟩,rfl,by kernel_rfl,by kernel_rfl⟩
 rcases ht with rfl | ht
 ·exact⟨⟨_,Tryz.underlying40,rfl,rfl,rfl,rfl,rfl,rfl,rfl,rfl,rfl,rfl,rfl,rfl,trivial⟩,rfl,by kernel_rfl,by kernel_rfl⟩
 rcases ht with rfl | ht
 ·exact⟨⟨rfl,_,Tryz.underlying47,rfl,rfl,by kernel_rfl⟩,rfl,by kernel_rfl,by kernel_rfl⟩
 rcases ht with rfl | ht
 ·exact⟨⟨_,Tryz.underlying57,rfl,rfl,rfl,rfl,rfl,rfl,rfl,rfl,rfl,rfl,rfl,rfl,trivial⟩,rfl,by kernel_rfl,by kernel_rfl⟩
 rcases ht with rfl | ht
 ·exact⟨⟨_,Tryz.underlying59,rfl,rfl,rfl,rfl,rfl,rfl,trivial⟩,rfl,by kernel_rfl,by kernel_rfl⟩
 rcases ht with rfl | ht
 ·exact⟨⟨rfl,_,Tryz.underlying61,rfl,rfl,by kernel_rfl⟩,rfl,by kernel_rfl,by kernel_rfl⟩
 rcases ht with rfl | ht
 ·exact⟨⟨_,Tryz.underlying70⟩,rfl,by kernel_rfl,by kernel_rfl⟩
 rcases ht with rfl | ht
 ·exact⟨Tryz.underlying76,rfl,by kernel_rfl,by kernel_rfl⟩
 rcases ht with rfl | ht
 ·exact⟨⟨_,Tryz.underlying78,rfl,rfl,rfl,rfl,rfl,rfl,rfl,rfl,rfl,trivial⟩,rfl,by kernel_rfl,by kernel_rfl⟩
 rcases ht with rfl | ht
 ·exact⟨⟨rfl,_,Tryz.underlying105,rfl,rfl,by kernel_rfl⟩,rfl,by kernel_rfl,by kernel_rfl⟩
 rcases ht with rfl | ht
 ·exact⟨Tryz.underlying147,rfl,by kernel_rfl,by kernel_rfl⟩
 cases ht
def zHZ:List (Nat×Hint):=[(122,.loop ⟨[0,1],[(5,0,(.lst true .str)),(6,0,(.int .i64)),(7,0,(.int .i64))],[]⟩ [(2,⟨[0],[(5,0,(.lst true .str)),(6,0,(.int .i64))],[]⟩)]),(489,.join [(0,⟨[0,1,7],[(5,0,(.lst true .str)),(6,0,(.int .i64))],[]⟩)])]
noncomputable def z1N:Ent:=mkE tysC 24 [] zHZ Tryz.f24 [(.vw,.str),(.vw,(.int .u8))] true (.lst true .str)
theorem z6B:z1N.Ok Tryz.prog:=z08 envC z07 Tryz.func24 (by decide +kernel) (by kernel_rfl)
noncomputable abbrev z8s:Ent:=z1N.frz
theorem zDA:z8s.Ok Tryz.prog:=Ent.frz_ok z6B
def zMf:List (Nat×Hint):=[(3,.join [(0,⟨[],[(6,0,.bool)],[]⟩)])]
noncomputable def z0i:Ent:=mkE tysC 45 [] zMf Tryz.f45 [(.vw,(.int .i64)),(.vw,(.int .i64)),(.vw,(.int .i64))] true .bool
theorem z3m:z0i.Ok Tryz.prog:=z08 envC z07 Tryz.func45 (by decide +kernel) (by kernel_rfl)
def zKw:List (Nat×Hint):=[(122,.loop ⟨[0],[(3,0,(.int .i64)),(4,0,(.int .i64))],[]⟩ [(1,⟨[],[(2,0,(.int .i64))],[]⟩),(2,⟨[],[(3,0,(.int .i64))],[]⟩)]),(3912,.join [(0,⟨[0,3,4],[(34,0,.bool)],[]⟩)]),(6,.join [(0,⟨[0],[(18,0,.bool)],[]⟩)])]
noncomputable def z1E:Ent:=mkE tysC 25 [z0i] zKw Tryz.f25 [(.vw,.str)] true (.int .i64)
theorem z8h:z1E.Ok Tryz.prog:=z08 envC (z02 z3m z07) Tryz.func25 (by decide +kernel) (by kernel_rfl)
def zFv:List (Nat×Hint):=[(58,.loop ⟨[],[(0,0,(.int .i64)),(5,0,(.lst true (.int .u8))),(6,0,(.int .i64))],[]⟩ [(2,⟨[],[(5,0,(.lst true (.int .u8)))],[]⟩)])]
noncomputable def z1a:Ent:=mkE tysC 132 [] zFv Tryz.f132 [(.vw,(.int .i64)),(.vw,(.int .i64))] true .str
theorem zEb:z1a.Ok Tryz.prog:=z08 envC z07 Tryz.func132 (by decide +kernel) (by kernel_rfl)
def zHY:List (Nat×Hint):=[(58,.loop ⟨[0],[(3,0,(.int .i64))],[]⟩ [(1,⟨[2],[],[]⟩),(2,⟨[0],[],[]⟩)]),(1865,.join [(0,⟨[0,3],[(38,0,.bool)],[]⟩)])]
noncomputable def z3p:Ent:=mkE tysC 172 [z0i] zHY Tryz.f172 [(.vw,.str)] true .bool
theorem zGN:z3p.Ok Tryz.prog:=z08 envC (z02 z3m z07) Tryz.func172 (by decide +kernel) (by kernel_rfl)
def zFt:List (Nat×Hint):=[(31,.join [(0,⟨[],[(2,0,(.lst true .str)),(3,0,.bool)],[]⟩)]),(122,.loop ⟨[0,4,11,12],[(13,0,(.int .i64))],[]⟩ [(1,⟨[2,3],[],[]⟩),(2,⟨[0,4],[],[]⟩)])]
noncomputable def z0t:Ent:=mkE tysC 135 [z1N,z3p] zFt Tryz.f135 [(.vw,.str)] false (.pair (.lst true .str) (.pair .bool .unit))
theorem z4e:z0t.Ok Tryz.prog:=z08 envC (z02 z6B (z02 zGN z07)) Tryz.func135 (by decide +kernel) (by kernel_rfl)
def zFw:List (Nat×Hint):=[(15,.join [(0,⟨[],[(2,0,.bool)],[]⟩)]),(58,.loop ⟨[0,3,12,13],[(4,0,.bool),(14,0,(.int .i64))],[]⟩ [(2,⟨[0],[(4,0,.bool)],[]⟩)]),(467,.join [(0,⟨[0,3,12,13,14],[(4,0,.bool)],[]⟩)])]
noncomputable def z4B:Ent:=mkE tysC 133 [z0t] zFw Tryz.f133 [(.vw,.str)] true .bool
theorem zEc:z4B.Ok Tryz.prog:=z08 envC (z02 z4e z07) Tryz.func133 (by decide +kernel) (by kernel_rfl)
def zHa:List (Nat×Hint):=[(122,.loop ⟨[3,13,14],[(5,0,.str),(15,0,(.int .i64))],[]⟩ [(2,⟨[],[(5,0,.str)],[]⟩)])]
noncomputable def z3q:Ent:=mkE tysC 134 [z0t] zHa Tryz.f134 [(.vw,.str)] true .str
theorem zGO:z3q.Ok Tryz.prog:=z08 envC (z02 z4e z07) Tryz.func134 (by decide +kernel) (by kernel_rfl)
def zHb:List (Nat×Hint):=[(221170,.loop ⟨[1],[(13,0,(.int .i64))],[]⟩ [(1,⟨[],[(4,0,.str),(5,0,.bool)],[]⟩),(5,⟨[1],[],[]⟩)]),(3538724,.join [(0,⟨[1,13],[(104,0,.bool)],[]⟩)]),(27642,.join [(0,⟨[12],[(76,0,.bool)],[]⟩)]),(107,.join [(0,⟨[1,14],[(39,0,.bool)],[]⟩)]),(3418,.loop ⟨[7,19,20],[(6,0,.str),(21,0,(.int .i64))],[]⟩ [(1,⟨[4,5],[],[]⟩),(3,⟨[7],[(6,0,.str)],[]⟩)])]
noncomputable def z1c:Ent:=mkE tysC 94 [z1N,z1E,z0i,z1a,z4B,z3q] zHb Tryz.f94 [(.vw,(.int .i64)),(.vw,.str)] false (.pair .str (.pair .bool .unit))
theorem z9X:z1c.Ok Tryz.prog:=z08 envC (z02 z6B (z02 z8h (z02 z3m (z02 zEb (z02 zEc (z02 zGO z07)))))) Tryz.func94 (by decide +kernel) (by kernel_rfl)
def zFq:List (Nat×Hint):=[]
noncomputable def z4s:Ent:=mkE tysC 95 [z0t] zFq Tryz.f95 [(.vw,.str)] true .bool
theorem zEZ:z4s.Ok Tryz.prog:=z08 envC (z02 z4e z07) Tryz.func95 (by decide +kernel) (by kernel_rfl)
def zCh:List (Nat×Hint):=[(7,.join [(0,⟨[],[(2,0,.bool)],[]⟩)])]
noncomputable def z1g:Ent:=mkE tysC 58 [z1c,z4s,z0i] zCh Tryz.f58 [(.vw,tyR)] true .bool
theorem z69:z1g.Ok Tryz.prog:=z08 envC (z02 z9X (z02 zEZ (z02 z3m z07))) Tryz.func58 (by decide +kernel) (by kernel_rfl)
def zDo:List (Nat×Hint):=[]
noncomputable def zM7:Ent:=⟨93,[(.vw,(.int .i64))],true,.str,fun _=>none⟩
noncomputable def zDt:PE:=(comp tysC [zM7] zDo Tryz.f93 [(.vw,(.int .i64))] true .str).getD .bot
noncomputable def z4d:Nat->List D->Option D
 | 0=>fun _=>none
 | k+1=>zRh [⟨93,[(.vw,(.int .i64))],true,.str,z4d k⟩] zDt
noncomputable abbrev zDu (k:Nat):Ent:=⟨93,[(.vw,(.int .i64))],true,.str,z4d k⟩
theorem zAb:∀k,(zDu k).Ok Tryz.prog
 | 0=>⟨⟨Tryz.f93,Tryz.func93,by decide +kernel,by kernel_rfl⟩,fun _ _ _ h=>by cases h⟩
 | k+1=>Ent.ok_of (pe:=zDt) (fn:=Tryz.f93) (hs:=zDo) envC (z02 (zAb k) z07) Tryz.func93 (by decide +kernel) (by kernel_rfl) rfl
noncomputable def z1Z:Ent:=zDu 40
theorem z74:z1Z.Ok Tryz.prog:=zAb 40
def zJH:List (Nat×Hint):=[(7,.join [(0,⟨[1],[(3,0,.str)],[]⟩)])]
noncomputable def z4L:Ent:=mkE tysC 59 [z1Z] zJH Tryz.f59 [(.vw,tyR)] true .str
theorem zAX:z4L.Ok Tryz.prog:=z08 envC (z02 z74 z07) Tryz.func59 (by decide +kernel) (by kernel_rfl)
def zCj:List (Nat×Hint):=[(126,.join [(0,⟨[2,5],[(53,0,.bool)],[]⟩)]),(31,.join [(0,⟨[0,2],[(5,2,tyR)],[]⟩)])]
noncomputable def z49:Ent:=mkE tysC 26 [z1N,z1E,z1g,z4L] zCj Tryz.f26 [(.vw,.str)] false (.pair tyR (.pair .bool .unit))
theorem zBz:z49.Ok Tryz.prog:=z08 envC (z02 z6B (z02 z8h (z02 z69 (z02 zAX z07)))) Tryz.func26 (by decide +kernel) (by kernel_rfl)
def zJF:List (Nat×Hint):=[(3,.join [(0,⟨[],[(4,0,.bool)],[]⟩)])]
noncomputable def z2i:Ent:=mkE tysC 44 [z0i] zJF Tryz.f44 [(.vw,(.int .i64)),(.vw,(.int .i64))] true .bool
theorem z81:z2i.Ok Tryz.prog:=z08 envC (z02 z3m z07) Tryz.func44 (by decide +kernel) (by kernel_rfl)
def zHc:List (Nat×Hint):=[(26,.loop ⟨[0,5,6],[(7,0,(.int .i64))],[]⟩ [(1,⟨[2],[],[]⟩),(2,⟨[0],[],[]⟩)]),(1689,.join [(0,⟨[0,5,6,7],[(26,0,.bool)],[]⟩)])]
noncomputable def z3E:Ent:=mkE tysC 56 [z0i,z1g] zHc Tryz.f56 [(.vw,(.lst false (.pair (.int .i64) (.pair tyR .unit))))] true .bool
theorem z9Y:z3E.Ok Tryz.prog:=z08 envC (z02 z3m (z02 z69 z07)) Tryz.func56 (by decide +kernel) (by kernel_rfl)
def zHW:List (Nat×Hint):=[(58,.loop ⟨[15,16],[(3,0,.str),(17,0,(.int .i64))],[]⟩ [(2,⟨[],[(3,0,.str)],[]⟩)])]
noncomputable def z5K:Ent:=mkE tysC 57 [z1Z,z4L] zHW Tryz.f57 [(.vw,(.pair (.int .i64) (.pair (.int .i64) (.pair (.lst false (.pair (.int .i64) (.pair tyR .unit))) .unit))))] true .str
theorem zGM:z5K.Ok Tryz.prog:=z08 envC (z02 z74 (z02 zAX z07)) Tryz.func57 (by decide +kernel) (by kernel_rfl)
def zEI:List (Nat×Hint):=[(6,.join [(0,⟨[1],[(15,0,.bool)],[]⟩)])]
noncomputable def z33:Ent:=mkE tysC 23 [z2i,z3E,z5K] zEI Tryz.f23 [(.vw,(.pair (.int .i64) (.pair (.int .i64) (.pair (.lst false (.pair (.int .i64) (.pair tyR .unit))) .unit))))] false (.pair .str (.pair .bool .unit))
theorem z8L:z33.Ok Tryz.prog:=z08 envC (z02 z81 (z02 z9Y (z02 zGM z07))) Tryz.func23 (by decide +kernel) (by kernel_rfl)
def zEK:List (Nat×Hint):=[(509,.join [(0,⟨[2,6],[(74,0,.bool)],[]⟩)]),(506,.loop ⟨[0,2,33,34],[(6,2,(.pair (.int .i64) (.pair (.int .i64) (.pair (.lst true (.pair (.int .i64) (.pair tyR .unit))) .unit)))),(35,0,(.int .i64))],[]⟩ [(1,⟨[3],[(2,2,(.pair (.int .i64) (.pair (.int .i64) (.pair (.lst true (.pair (.int .i64) (.pair tyR .unit))) .unit))))],[]⟩),(2,⟨[0,2],[(6,2,(.pair (.int .i64) (.pair (.int .i64) (.pair (.lst true (.pair (.int .i64) (.pair tyR .unit))) .unit))))],[]⟩)]),(0,.frz [14,18])]
noncomputable def z4a:Ent:=mkE tysC 5 [z1E,z49,z33,z8s] zEK Tryz.f5 [(.vw,.str)] false (.pair (.pair (.int .i64) (.pair (.int .i64) (.pair (.lst true (.pair (.int .i64) (.pair tyR .unit))) .unit))) (.pair .bool .unit))
theorem zD7:z4a.Ok Tryz.prog:=z08 envC (z02 z8h (z02 zBz (z02 z8L (z02 zDA z07)))) Tryz.func5 (by decide +kernel) (by kernel_rfl)
noncomputable abbrev z1A:Ent:=zIa 27
theorem z6u:z1A.Ok Tryz.prog:=zQf Tryz.l146 (by kernel_rfl) Tryz.func27 (by decide +kernel) rfl zBb
noncomputable abbrev z88:Ent:=z1A.frz
theorem zC4:z88.Ok Tryz.prog:=Ent.frz_ok z6u
noncomputable abbrev z3B:Ent:=cutE 28
theorem zAa:z3B.Ok Tryz.prog:=zSL Tryz.l145 (by kernel_rfl) Tryz.func28 (by decide +kernel) rfl zBb
noncomputable abbrev z1O:Ent:=zMB 29
theorem z7Q:z1O.Ok Tryz.prog:=zQv Tryz.l172 (by kernel_rfl) Tryz.func29 (by decide +kernel) rfl zTE zTD
noncomputable abbrev z3f:Ent:=zH6 64
theorem zDB:z3f.Ok Tryz.prog:=zOt Tryz.l147 (by kernel_rfl) Tryz.func64 (by decide +kernel) rfl zBb
def zFk:List (Nat×Hint):=[]
noncomputable def z1o:Ent:=mkE tysC 146 [z1A] zFk Tryz.f146 [(.vw,.str)] true (.lst true .str)
theorem z6t:z1o.Ok Tryz.prog:=z08 envC (z02 z6u z07) Tryz.func146 (by decide +kernel) (by kernel_rfl)
def zJB:List (Nat×Hint):=[(3,.join [(0,⟨[],[(6,0,.bool)],[]⟩)])]
noncomputable def z0j:Ent:=mkE tysC 41 [] zJB Tryz.f41 [(.vw,(.int .i64)),(.vw,(.int .i64)),(.vw,(.int .i64))] true .bool
theorem z3F:z0j.Ok Tryz.prog:=z08 envC z07 Tryz.func41 (by decide +kernel) (by kernel_rfl)
noncomputable abbrev z4i:Ent:=zQl 179
theorem zGP:z4i.Ok Tryz.prog:=zRo Tryz.l160 (by kernel_rfl) (by kernel_rfl) Tryz.func179 (by decide +kernel) rfl
def zHQ:List (Nat×Hint):=[(7,.join [(0,⟨[],[(2,0,.bool)],[]⟩)])]
noncomputable def z5F:Ent:=mkE tysC 149 [z0j,z4i] zHQ Tryz.f149 [(.vw,.str)] true .bool
theorem zGH:z5F.Ok Tryz.prog:=z08 envC (z02 z3F (z02 zGP z07)) Tryz.func149 (by decide +kernel) (by kernel_rfl)
def zCX:List (Nat×Hint):=[]
noncomputable def z3G:Ent:=mkE tysC 148 [z5F] zCX Tryz.f148 [(.vw,.str)] true .bool
theorem zBs:z3G.Ok Tryz.prog:=z08 envC (z02 zGH z07) Tryz.func148 (by decide +kernel) (by kernel_rfl)
def z3Z:List (Nat×Hint):=[(26,.loop ⟨[0,1,7],[(8,0,(.int .i64))],[]⟩ [(1,⟨[],[(4,0,(.int .i64))],[]⟩),(2,⟨[],[],[]⟩)])]
noncomputable def z0Y:Ent:=mkE tysC 178 [z3G] z3Z Tryz.f178 [(.vw,(.lst false .str)),(.vw,(.fn 148 .unit))] true (.int .i64)
theorem z3X:z0Y.Ok Tryz.prog:=z08 envC (z02 zBs z07) Tryz.func178 (by decide +kernel) (by kernel_rfl)
def z3K:List (Nat×Hint):=[]
noncomputable def z0W:Ent:=mkE tysC 147 [z0Y] z3K Tryz.f147 [(.vw,(.lst false .str)),(.vw,(.fn 148 .unit))] true .bool
theorem z3D:z0W.Ok Tryz.prog:=z08 envC (z02 z3X z07) Tryz.func147 (by decide +kernel) (by kernel_rfl)
def zFc:List (Nat×Hint):=[(15,.join [(0,⟨[],[(2,0,.bool)],[]⟩)])]
noncomputable def z25:Ent:=mkE tysC 105 [z1o,z0W] zFc Tryz.f105 [(.vw,.str)] true .bool
theorem z6r:z25.Ok Tryz.prog:=z08 envC (z02 z6t (z02 z3D z07)) Tryz.func105 (by decide +kernel) (by kernel_rfl)
noncomputable abbrev z12:Ent:=zPm 92
theorem z6C:z12.Ok Tryz.prog:=zRL Tryz.l171 (by kernel_rfl) Tryz.func92 (by decide +kernel) rfl (by kernel_rfl) zTC
def zFl:List (Nat×Hint):=[(7,.join [(0,⟨[],[(4,0,(.int .i64)),(5,0,.bool)],[]⟩)])]
noncomputable def z26:Ent:=mkE tysC 150 [z1O,z0j,z12] zFl Tryz.f150 [(.vw,.str),(.vw,(.int .i64))] false (.pair (.int .i64) (.pair .bool .unit))
theorem zEW:z26.Ok Tryz.prog:=z08 envC (z02 z7Q (z02 z3F (z02 z6C z07))) Tryz.func150 (by decide +kernel) (by kernel_rfl)
def zOR:List (Nat×Hint):=[(58,.loop ⟨[0],[(5,0,(.lst true (.int .u8))),(6,0,(.int .i64))],[]⟩ [(2,⟨[],[(5,0,(.lst true (.int .u8)))],[]⟩)])]
noncomputable def z3d:Ent:=mkE tysC 151 [] zOR Tryz.f151 [(.vw,(.int .i64)),(.vw,(.int .i64))] true .str
theorem zMq:z3d.Ok Tryz.prog:=z08 envC z07 Tryz.func151 (by decide +kernel) (by kernel_rfl)
noncomputable abbrev z1j:Ent:=z99 180
theorem z7R:z1j.Ok Tryz.prog:=zKT Tryz.l144 (by kernel_rfl) Tryz.func180 (by decide +kernel) rfl zBb
def zFj:List (Nat×Hint):=[(3,.join [(0,⟨[],[(2,0,.bool)],[]⟩)])]
noncomputable def z45:Ent:=mkE tysC 152 [z25,z1j] zFj Tryz.f152 [(.vw,.str)] true .bool
theorem zEV:z45.Ok Tryz.prog:=z08 envC (z02 z6r (z02 z7R z07)) Tryz.func152 (by decide +kernel) (by kernel_rfl)
def zCc:List (Nat×Hint):=[(58,.loop ⟨[7,8],[(3,0,.str),(9,0,(.int .i64))],[]⟩ [(2,⟨[],[(3,0,.str)],[]⟩)])]
noncomputable def z2X:Ent:=mkE tysC 153 [z1o] zCc Tryz.f153 [(.vw,.str)] true .str
theorem zBv:z2X.Ok Tryz.prog:=z08 envC (z02 z6t z07) Tryz.func153 (by decide +kernel) (by kernel_rfl)
def zBd:List (Nat×Hint):=[(3,.join [(0,⟨[],[(2,0,.bool)],[]⟩)])]
noncomputable def z2z:Ent:=mkE tysC 155 [] zBd Tryz.f155 [(.vw,(.int .u8))] true .bool
theorem zB3:z2z.Ok Tryz.prog:=z08 envC z07 Tryz.func155 (by decide +kernel) (by kernel_rfl)
def z3u:List (Nat×Hint):=[(26,.loop ⟨[0,1,7],[(8,0,(.int .i64))],[]⟩ [(1,⟨[],[(4,0,(.int .i64))],[]⟩),(2,⟨[],[],[]⟩)])]
noncomputable def z0a:Ent:=mkE tysC 181 [z2z] z3u Tryz.f181 [(.vw,(.lst false (.int .u8))),(.vw,(.fn 155 .unit))] true (.int .i64)
theorem z3r:z0a.Ok Tryz.prog:=z08 envC (z02 zB3 z07) Tryz.func181 (by decide +kernel) (by kernel_rfl)
def z3Y:List (Nat×Hint):=[]
noncomputable def z0X:Ent:=mkE tysC 154 [z0a] z3Y Tryz.f154 [(.vw,(.lst false (.int .u8))),(.vw,(.fn 155 .unit))] true .bool
theorem z3W:z0X.Ok Tryz.prog:=z08 envC (z02 z3r z07) Tryz.func154 (by decide +kernel) (by kernel_rfl)
def zE5:List (Nat×Hint):=[(55292,.join [(0,⟨[1],[(103,0,.bool)],[]⟩)]),(55286,.join [(0,⟨[15,17],[(87,0,.bool)],[]⟩)]),(107,.join [(0,⟨[1,19],[(48,0,.bool)],[]⟩)]),(3418,.loop ⟨[7,24,25],[(6,0,.str),(26,0,(.int .i64))],[]⟩ [(1,⟨[4,5],[],[]⟩),(3,⟨[],[(6,0,.str)],[]⟩)]),(875110,.join [(0,⟨[6,7,10,24,25,26],[(41,0,.bool)],[]⟩)])]
noncomputable def z18:Ent:=mkE tysC 106 [z1A,z26,z3d,z45,z2X,z3B,z0X] zE5 Tryz.f106 [(.vw,(.int .i64)),(.vw,.str)] false (.pair .str (.pair .bool .unit))
theorem z8I:z18.Ok Tryz.prog:=z08 envC (z02 z6u (z02 zEW (z02 zMq (z02 zEV (z02 zBv (z02 zAa (z02 z3W z07))))))) Tryz.func106 (by decide +kernel) (by kernel_rfl)
def zCY:List (Nat×Hint):=[(6,.join [(0,⟨[1],[(20,0,.bool)],[]⟩)])]
noncomputable def z1f:Ent:=mkE tysC 65 [z25,z0j,z18] zCY Tryz.f65 [(.vw,tyR)] true .bool
theorem z67:z1f.Ok Tryz.prog:=z08 envC (z02 z6r (z02 z3F (z02 z8I z07))) Tryz.func65 (by decide +kernel) (by kernel_rfl)
def zMe:List (Nat×Hint):=[]
noncomputable def z7I:Ent:=mkE tysC 107 [] zMe Tryz.f107 [(.vw,.str)] true .str
theorem zLK:z7I.Ok Tryz.prog:=z08 envC z07 Tryz.func107 (by decide +kernel) (by kernel_rfl)
def zCe:List (Nat×Hint):=[]
noncomputable def z2Y:Ent:=mkE tysC 66 [z7I,z12] zCe Tryz.f66 [(.vw,tyR)] true .str
theorem z7k:z2Y.Ok Tryz.prog:=z08 envC (z02 zLK (z02 z6C z07)) Tryz.func66 (by decide +kernel) (by kernel_rfl)
def zCa:List (Nat×Hint):=[(510,.join [(0,⟨[2,5],[(52,0,.bool)],[]⟩)]),(31,.join [(0,⟨[0,2,4],[(5,2,tyR)],[]⟩)]),(14,.join [(0,⟨[0,2,4],[(15,0,.bool)],[]⟩)])]
noncomputable def z40:Ent:=mkE tysC 30 [z3f,z1O,z1f,z2Y] zCa Tryz.f30 [(.vw,.str)] false (.pair tyR (.pair .bool .unit))
theorem zBu:z40.Ok Tryz.prog:=z08 envC (z02 zDB (z02 z7Q (z02 z67 (z02 z7k z07)))) Tryz.func30 (by decide +kernel) (by kernel_rfl)
def zFh:List (Nat×Hint):=[(3,.join [(0,⟨[],[(4,0,.bool)],[]⟩)])]
noncomputable def z1n:Ent:=mkE tysC 42 [z0j] zFh Tryz.f42 [(.vw,(.int .i64)),(.vw,(.int .i64))] true .bool
theorem z6s:z1n.Ok Tryz.prog:=z08 envC (z02 z3F z07) Tryz.func42 (by decide +kernel) (by kernel_rfl)
def zAr:List (Nat×Hint):=[(3,.join [(0,⟨[],[(2,0,.bool)],[]⟩)])]
noncomputable def z1W:Ent:=mkE tysC 91 [z0j,z1f] zAr Tryz.f91 [(.vw,(.pair (.int .i64) (.pair tyR .unit)))] true .bool
theorem zAD:z1W.Ok Tryz.prog:=z08 envC (z02 z3F (z02 z67 z07)) Tryz.func91 (by decide +kernel) (by kernel_rfl)
def z2I:List (Nat×Hint):=[(26,.loop ⟨[0,1,7],[(8,0,(.int .i64))],[]⟩ [(1,⟨[],[(4,0,(.int .i64))],[]⟩),(2,⟨[],[],[]⟩)])]
noncomputable def z0F:Ent:=mkE tysC 130 [z1W] z2I Tryz.f130 [(.vw,(.lst false (.pair (.int .i64) (.pair tyR .unit)))),(.vw,(.fn 91 .unit))] true (.int .i64)
theorem z2F:z0F.Ok Tryz.prog:=z08 envC (z02 zAD z07) Tryz.func130 (by decide +kernel) (by kernel_rfl)
def z1z:List (Nat×Hint):=[]
noncomputable def z0D:Ent:=mkE tysC 90 [z0F] z1z Tryz.f90 [(.vw,(.lst false (.pair (.int .i64) (.pair tyR .unit)))),(.vw,(.fn 91 .unit))] true .bool
theorem z1y:z0D.Ok Tryz.prog:=z08 envC (z02 z2F z07) Tryz.func90 (by decide +kernel) (by kernel_rfl)
def zCb:List (Nat×Hint):=[(3,.join [(0,⟨[],[(2,0,.bool)],[]⟩)])]
noncomputable def z1w:Ent:=mkE tysC 54 [z0D] zCb Tryz.f54 [(.vw,(.lst false (.pair (.int .i64) (.pair tyR .unit))))] true .bool
theorem z7j:z1w.Ok Tryz.prog:=z08 envC (z02 z1y z07) Tryz.func54 (by decide +kernel) (by kernel_rfl)
def zEA:List (Nat×Hint):=[(58,.loop ⟨[15,16],[(3,0,.str),(17,0,(.int .i64))],[]⟩ [(2,⟨[],[(3,0,.str)],[]⟩)])]
noncomputable def z4W:Ent:=mkE tysC 55 [z12,z2Y] zEA Tryz.f55 [(.vw,(.pair (.int .i64) (.pair (.int .i64) (.pair (.lst false (.pair (.int .i64) (.pair tyR .unit))) .unit))))] true .str
theorem zCz:z4W.Ok Tryz.prog:=z08 envC (z02 z6C (z02 z7k z07)) Tryz.func55 (by decide +kernel) (by kernel_rfl)
def zE4:List (Nat×Hint):=[(6,.join [(0,⟨[1],[(15,0,.bool)],[]⟩)])]
noncomputable def z30:Ent:=mkE tysC 22 [z1n,z1w,z4W] zE4 Tryz.f22 [(.vw,(.pair (.int .i64) (.pair (.int .i64) (.pair (.lst false (.pair (.int .i64) (.pair tyR .unit))) .unit))))] false (.pair .str (.pair .bool .unit))
theorem z8H:z30.Ok Tryz.prog:=z08 envC (z02 z6s (z02 z7j (z02 zCz z07))) Tryz.func22 (by decide +kernel) (by kernel_rfl)
def zE7:List (Nat×Hint):=[(2045,.join [(0,⟨[2,8],[(93,0,.bool)],[]⟩)]),(2042,.loop ⟨[0,2,48,49],[(8,2,(.pair (.int .i64) (.pair (.int .i64) (.pair (.lst true (.pair (.int .i64) (.pair tyR .unit))) .unit)))),(50,0,(.int .i64))],[]⟩ [(1,⟨[3],[(2,2,(.pair (.int .i64) (.pair (.int .i64) (.pair (.lst true (.pair (.int .i64) (.pair tyR .unit))) .unit))))],[]⟩),(2,⟨[0,2],[(8,2,(.pair (.int .i64) (.pair (.int .i64) (.pair (.lst true (.pair (.int .i64) (.pair tyR .unit))) .unit))))],[]⟩)]),(0,.frz [21])]
noncomputable def z2G:Ent:=mkE tysC 6 [z3B,z1O,z40,z30,z88] zE7 Tryz.f6 [(.vw,.str)] false (.pair (.pair (.int .i64) (.pair (.int .i64) (.pair (.lst true (.pair (.int .i64) (.pair tyR .unit))) .unit))) (.pair .bool .unit))
theorem z8J:z2G.Ok Tryz.prog:=z08 envC (z02 zAa (z02 z7Q (z02 zBu (z02 z8H (z02 zC4 z07))))) Tryz.func6 (by decide +kernel) (by kernel_rfl)
def zFn:List (Nat×Hint):=[]
noncomputable def z4r:Ent:=mkE tysC 108 [] zFn Tryz.f108 [(.vw,tyR),(.vw,tyR)] true .bool
theorem zEY:z4r.Ok Tryz.prog:=z08 envC z07 Tryz.func108 (by decide +kernel) (by kernel_rfl)
def zFm:List (Nat×Hint):=[]
noncomputable def z5w:Ent:=mkE tysC 67 [z4r] zFm Tryz.f67 [(.vw,(.pair (.int .i64) (.pair tyR .unit))),(.vw,(.pair (.int .i64) (.pair tyR .unit)))] true .bool
theorem zEX:z5w.Ok Tryz.prog:=z08 envC (z02 zEY z07) Tryz.func67 (by decide +kernel) (by kernel_rfl)
def zEE:List (Nat×Hint):=[(58,.loop ⟨[0,1],[(5,0,(.int .i64))],[]⟩ [(1,⟨[4],[],[]⟩),(2,⟨[],[],[]⟩)])]
noncomputable def z5S:Ent:=mkE tysC 31 [z5w] zEE Tryz.f31 [(.vw,(.lst false (.pair (.int .i64) (.pair tyR .unit)))),(.vw,(.lst false (.pair (.int .i64) (.pair tyR .unit))))] true .bool
theorem zD2:z5S.Ok Tryz.prog:=z08 envC (z02 zEX z07) Tryz.func31 (by decide +kernel) (by kernel_rfl)
def zHT:List (Nat×Hint):=[]
noncomputable def z5I:Ent:=mkE tysC 7 [z5S] zHT Tryz.f7 [(.vw,(.pair (.int .i64) (.pair (.int .i64) (.pair (.lst false (.pair (.int .i64) (.pair tyR .unit))) .unit)))),(.vw,(.pair (.int .i64) (.pair (.int .i64) (.pair (.lst false (.pair (.int .i64) (.pair tyR .unit))) .unit))))] true .bool
theorem zGK:z5I.Ok Tryz.prog:=z08 envC (z02 zD2 z07) Tryz.func7 (by decide +kernel) (by kernel_rfl)
def zFo:List (Nat×Hint):=[(60,.loop ⟨[],[(0,0,(.int .i64)),(3,0,.str)],[]⟩ [(2,⟨[],[(3,0,.str)],[]⟩)])]
noncomputable def z1p:Ent:=mkE tysC 68 [] zFo Tryz.f68 [(.vw,(.int .i64))] true .str
theorem z8v:z1p.Ok Tryz.prog:=z08 envC z07 Tryz.func68 (by decide +kernel) (by kernel_rfl)
def zBh:List (Nat×Hint):=[(26,.loop ⟨[],[(0,0,(.lst true (.pair (.int .i64) (.pair tyR .unit)))),(1,0,(.int .i64)),(5,0,(.int .i64))],[]⟩ [(2,⟨[],[(0,0,(.lst true (.pair (.int .i64) (.pair tyR .unit)))),(1,0,(.int .i64))],[]⟩)])]
noncomputable def z4m:Ent:=mkE tysC 32 [z1p] zBh Tryz.f32 [(.io,(.lst true (.pair (.int .i64) (.pair tyR .unit)))),(.vw,(.int .i64))] true (.int .i64)
theorem zB6:z4m.Ok Tryz.prog:=z08 envC (z02 z8v z07) Tryz.func32 (by decide +kernel) (by kernel_rfl)
def zEG:List (Nat×Hint):=[]
noncomputable def z5T:Ent:=mkE tysC 8 [z4m] zEG Tryz.f8 [(.io,(.pair (.int .i64) (.pair (.int .i64) (.pair (.lst true (.pair (.int .i64) (.pair tyR .unit))) .unit)))),(.vw,(.int .i64))] true (.int .i64)
theorem zD4:z5T.Ok Tryz.prog:=z08 envC (z02 zB6 z07) Tryz.func8 (by decide +kernel) (by kernel_rfl)
def zBg:List (Nat×Hint):=[(26,.loop ⟨[0],[(1,0,(.int .i64)),(5,0,(.int .i64))],[]⟩ [(1,⟨[],[(4,0,(.int .i64))],[]⟩),(2,⟨[],[(1,0,(.int .i64))],[]⟩)])]
noncomputable def z4l:Ent:=mkE tysC 33 [z1p] zBg Tryz.f33 [(.vw,(.lst false (.pair (.int .i64) (.pair tyR .unit)))),(.vw,(.int .i64))] true (.int .i64)
theorem zB5:z4l.Ok Tryz.prog:=z08 envC (z02 z8v z07) Tryz.func33 (by decide +kernel) (by kernel_rfl)
def zEF:List (Nat×Hint):=[]
noncomputable def z4Y:Ent:=mkE tysC 9 [z4l] zEF Tryz.f9 [(.vw,(.pair (.int .i64) (.pair (.int .i64) (.pair (.lst false (.pair (.int .i64) (.pair tyR .unit))) .unit)))),(.vw,(.int .i64))] true (.int .i64)
theorem zD3:z4Y.Ok Tryz.prog:=z08 envC (z02 zB5 z07) Tryz.func9 (by decide +kernel) (by kernel_rfl)
def z8c:List (Nat×Hint):=[(16382,.join [(0,⟨[5,7],[(57,0,.bool)],[]⟩)]),(62,.join [(0,⟨[0,3,4,5],[(32,0,.bool)],[]⟩)])]
noncomputable def z5v:Ent:=mkE tysC 3 [z4a,z2G,z5I,z5T,z4Y] z8c Tryz.f3 [(.vw,.str)] true .bool
theorem ok_laws_FnExactReadAsked:z5v.Ok Tryz.prog:=z08 envC (z02 zD7 (z02 z8J (z02 zGK (z02 zD4 (z02 zD3 z07))))) Tryz.func3 (by decide +kernel) (by kernel_rfl)
def zCl:List (Nat×Hint):=[(7,.join [(0,⟨[0],[(3,0,(.int .i64))],[]⟩)])]
noncomputable def z3I:Ent:=mkE tysC 109 [] zCl Tryz.f109 [(.iop,(.pair (.lst false (.int .u8)) (.pair (.int .i64) (.pair (.int .u64) .unit))))] true (.int .i64)
theorem zC0:z3I.Ok Tryz.prog:=z08 envC z07 Tryz.func109 (by decide +kernel) (by kernel_rfl)
def zCm:List (Nat×Hint):=[(15,.join [(0,⟨[1],[(0,2,(.pair (.lst false (.int .u8)) (.pair (.int .i64) (.pair (.int .u64) .unit)))),(5,0,(.int .i64))],[]⟩)])]
noncomputable def z09:Ent:=mkE tysC 69 [z3I] zCm Tryz.f69 [(.iop,(.pair (.lst false (.int .u8)) (.pair (.int .i64) (.pair (.int .u64) .unit)))),(.vw,(.int .i64))] true (.int .i64)
theorem z1U:z09.Ok Tryz.prog:=z08 envC (z02 zC0 z07) Tryz.func69 (by decide +kernel) (by kernel_rfl)
def zEN:List (Nat×Hint):=[]
noncomputable def z0h:Ent:=mkE tysC 49 [z09] zEN Tryz.f49 [(.iop,(.pair (.lst false (.int .u8)) (.pair (.int .i64) (.pair (.int .u64) .unit)))),(.vw,(.int .i64))] true .bool
theorem z54:z0h.Ok Tryz.prog:=z08 envC (z02 z1U z07) Tryz.func49 (by decide +kernel) (by kernel_rfl)
def zBk:List (Nat×Hint):=[]
noncomputable def z0e:Ent:=mkE tysC 70 [z09] zBk Tryz.f70 [(.iop,(.pair (.lst false (.int .u8)) (.pair (.int .i64) (.pair (.int .u64) .unit)))),(.vw,(.lst false (.int .i64)))] true (.int .i64)
theorem z4Q:z0e.Ok Tryz.prog:=z08 envC (z02 z1U z07) Tryz.func70 (by decide +kernel) (by kernel_rfl)
def zFs:List (Nat×Hint):=[]
noncomputable def z0m:Ent:=mkE tysC 87 [z09] zFs Tryz.f87 [(.iop,(.pair (.lst false (.int .u8)) (.pair (.int .i64) (.pair (.int .u64) .unit)))),(.vw,(.lst false .str))] true .str
theorem z5V:z0m.Ok Tryz.prog:=z08 envC (z02 z1U z07) Tryz.func87 (by decide +kernel) (by kernel_rfl)
def zCk:List (Nat×Hint):=[(122,.loop ⟨[],[(0,2,(.pair (.lst false (.int .u8)) (.pair (.int .i64) (.pair (.int .u64) .unit)))),(3,0,.str),(4,0,(.int .i64))],[]⟩ [(3,⟨[],[(0,2,(.pair (.lst false (.int .u8)) (.pair (.int .i64) (.pair (.int .u64) .unit)))),(3,0,.str)],[]⟩)]),(0,.frz [10,15,18,27])]
noncomputable def z2a:Ent:=mkE tysC 50 [z09,z0m] zCk Tryz.f50 [(.iop,(.pair (.lst false (.int .u8)) (.pair (.int .i64) (.pair (.int .u64) .unit))))] true .str
theorem z7m:z2a.Ok Tryz.prog:=z08 envC (z02 z1U (z02 z5V z07)) Tryz.func50 (by decide +kernel) (by kernel_rfl)
def zAw:List (Nat×Hint):=[(0,.frz [4])]
noncomputable def z2b:Ent:=mkE tysC 182 [z0m] zAw Tryz.f182 [(.iop,(.pair (.lst false (.int .u8)) (.pair (.int .i64) (.pair (.int .u64) .unit))))] true .str
theorem zAI:z2b.Ok Tryz.prog:=z08 envC (z02 z5V z07) Tryz.func182 (by decide +kernel) (by kernel_rfl)
def zAv:List (Nat×Hint):=[(15,.join [(0,⟨[2],[(0,2,(.pair (.lst false (.int .u8)) (.pair (.int .i64) (.pair (.int .u64) .unit)))),(3,2,tyR)],[]⟩)]),(7,.join [(0,⟨[2],[(0,2,(.pair (.lst false (.int .u8)) (.pair (.int .i64) (.pair (.int .u64) .unit)))),(3,2,tyR)],[]⟩)]),(235,.join [(0,⟨[0,2,3,14],[(25,0,.bool)],[]⟩)]),(0,.frz [7,10,22,16,52,58])]
noncomputable def z3S:Ent:=mkE tysC 156 [z2a,z0e,z0m,z2b,z09,z1Z] zAv Tryz.f156 [(.iop,(.pair (.lst false (.int .u8)) (.pair (.int .i64) (.pair (.int .u64) .unit))))] true tyR
theorem zAH:z3S.Ok Tryz.prog:=z08 envC (z02 z7m (z02 z4Q (z02 z5V (z02 zAI (z02 z1U (z02 z74 z07)))))) Tryz.func156 (by decide +kernel) (by kernel_rfl)
def zAu:List (Nat×Hint):=[(127,.join [(0,⟨[2],[(0,2,(.pair (.lst false (.int .u8)) (.pair (.int .i64) (.pair (.int .u64) .unit)))),(3,2,tyR)],[]⟩)]),(254,.join [(0,⟨[2,3],[(0,2,(.pair (.lst false (.int .u8)) (.pair (.int .i64) (.pair (.int .u64) .unit)))),(35,0,.bool)],[]⟩)]),(63,.join [(0,⟨[2],[(0,2,(.pair (.lst false (.int .u8)) (.pair (.int .i64) (.pair (.int .u64) .unit)))),(3,2,tyR)],[]⟩)]),(126,.join [(0,⟨[2,3],[(0,2,(.pair (.lst false (.int .u8)) (.pair (.int .i64) (.pair (.int .u64) .unit)))),(21,0,.bool)],[]⟩)]),(0,.frz [10])]
noncomputable def z3R:Ent:=mkE tysC 110 [z3S,z0h,z0m] zAu Tryz.f110 [(.iop,(.pair (.lst false (.int .u8)) (.pair (.int .i64) (.pair (.int .u64) .unit))))] true tyR
theorem zAG:z3R.Ok Tryz.prog:=z08 envC (z02 zAH (z02 z54 (z02 z5V z07))) Tryz.func110 (by decide +kernel) (by kernel_rfl)
def zBl:List (Nat×Hint):=[(63,.join [(0,⟨[],[(0,2,(.pair (.lst false (.int .u8)) (.pair (.int .i64) (.pair (.int .u64) .unit)))),(3,0,(.lst true (.pair (.int .i64) (.pair tyR .unit))))],[]⟩)]),(124,.loop ⟨[],[(0,2,(.pair (.lst false (.int .u8)) (.pair (.int .i64) (.pair (.int .u64) .unit)))),(3,0,(.lst true (.pair (.int .i64) (.pair tyR .unit)))),(4,0,(.int .i64))],[]⟩ [(2,⟨[],[(0,2,(.pair (.lst false (.int .u8)) (.pair (.int .i64) (.pair (.int .u64) .unit)))),(3,0,(.lst true (.pair (.int .i64) (.pair tyR .unit))))],[]⟩)]),(15,.join [(0,⟨[3],[(0,2,(.pair (.lst false (.int .u8)) (.pair (.int .i64) (.pair (.int .u64) .unit)))),(4,0,(.int .i64))],[]⟩)]),(0,.frz [19,2])]
noncomputable def z3k:Ent:=mkE tysC 71 [z09,z0h,z0e,z3R] zBl Tryz.f71 [(.iop,(.pair (.lst false (.int .u8)) (.pair (.int .i64) (.pair (.int .u64) .unit))))] true (.lst true (.pair (.int .i64) (.pair tyR .unit)))
theorem zB8:z3k.Ok Tryz.prog:=z08 envC (z02 z1U (z02 z54 (z02 z4Q (z02 zAG z07)))) Tryz.func71 (by decide +kernel) (by kernel_rfl)
def z8B:List (Nat×Hint):=[(7,.join [(0,⟨[2],[(0,2,(.pair (.lst false (.int .u8)) (.pair (.int .i64) (.pair (.int .u64) .unit)))),(3,2,(.pair (.int .i64) (.pair (.int .i64) (.pair (.lst true (.pair (.int .i64) (.pair tyR .unit))) .unit))))],[]⟩)]),(0,.frz [17,23])]
noncomputable def z0o:Ent:=mkE tysC 35 [z09,z3k,z0e] z8B Tryz.f35 [(.iop,(.pair (.lst false (.int .u8)) (.pair (.int .i64) (.pair (.int .u64) .unit))))] true (.pair (.int .i64) (.pair (.int .i64) (.pair (.lst true (.pair (.int .i64) (.pair tyR .unit))) .unit)))
theorem z3s:z0o.Ok Tryz.prog:=z08 envC (z02 z1U (z02 zB8 (z02 z4Q z07))) Tryz.func35 (by decide +kernel) (by kernel_rfl)
noncomputable abbrev z58:Ent:=z0o.frz
theorem z7P:z58.Ok Tryz.prog:=Ent.frz_ok z3s
def z90:List (Nat×Hint):=[(31,.join [(0,⟨[],[(0,2,(.pair (.lst false (.int .u8)) (.pair (.int .i64) (.pair (.int .u64) .unit)))),(3,0,(.lst true (.pair (.int .i64) (.pair (.int .i64) (.pair (.lst false (.pair (.int .i64) (.pair tyR .unit))) .unit)))))],[]⟩)]),(500,.loop ⟨[],[(0,2,(.pair (.lst false (.int .u8)) (.pair (.int .i64) (.pair (.int .u64) .unit)))),(3,0,(.lst true (.pair (.int .i64) (.pair (.int .i64) (.pair (.lst false (.pair (.int .i64) (.pair tyR .unit))) .unit)))))],[]⟩ [(4,⟨[],[(0,2,(.pair (.lst false (.int .u8)) (.pair (.int .i64) (.pair (.int .u64) .unit)))),(3,0,(.lst true (.pair (.int .i64) (.pair (.int .i64) (.pair (.lst false (.pair (.int .i64) (.pair tyR .unit))) .unit)))))],[]⟩)]),(60,.loop ⟨[],[(0,2,(.pair (.lst false (.int .u8)) (.pair (.int .i64) (.pair (.int .u64) .unit)))),(3,0,(.lst true (.pair (.int .i64) (.pair (.int .i64) (.pair (.lst false (.pair (.int .i64) (.pair tyR .unit))) .unit))))),(4,0,(.int .i64))],[]⟩ [(2,⟨[],[(0,2,(.pair (.lst false (.int .u8)) (.pair (.int .i64) (.pair (.int .u64) .unit)))),(3,0,(.lst true (.pair (.int .i64) (.pair (.int .i64) (.pair (.lst false (.pair (.int .i64) (.pair tyR .unit))) .unit)))))],[]⟩)]),(241,.join [(0,⟨[4],[(0,2,(.pair (.lst false (.int .u8)) (.pair (.int .i64) (.pair (.int .u64) .unit)))),(3,0,(.lst true (.pair (.int .i64) (.pair (.int .i64) (.pair (.lst false (.pair (.int .i64) (.pair tyR .unit))) .unit)))))],[]⟩)]),(1929,.join [(0,⟨[3,4],[(0,2,(.pair (.lst false (.int .u8)) (.pair (.int .i64) (.pair (.int .u64) .unit)))),(5,2,(.pair (.int .i64) (.pair (.int .i64) (.pair (.lst false (.pair (.int .i64) (.pair tyR .unit))) .unit))))],[]⟩)]),(0,.frz [2,13])]
noncomputable def z1R:Ent:=mkE tysZ 51 [z09,z0h,z58] z90 Tryz.f51 [(.iop,(.pair (.lst false (.int .u8)) (.pair (.int .i64) (.pair (.int .u64) .unit))))] true (.lst true (.pair (.int .i64) (.pair (.int .i64) (.pair (.lst false (.pair (.int .i64) (.pair tyR .unit))) .unit))))
theorem z6A:z1R.Ok Tryz.prog:=z08 envZ (z02 z1U (z02 z54 (z02 z7P z07))) Tryz.func51 (by decide +kernel) (by kernel_rfl)
def zJI:List (Nat×Hint):=[(58,.loop ⟨[3,12,13],[(4,0,.bool),(14,0,(.int .i64))],[]⟩ [(2,⟨[],[(4,0,.bool)],[]⟩)]),(467,.join [(0,⟨[3,12,13,14],[(4,0,.bool)],[]⟩)])]
noncomputable def z4M:Ent:=mkE tysC 127 [z0t] zJI Tryz.f127 [(.vw,.str)] true .bool
theorem zAY:z4M.Ok Tryz.prog:=z08 envC (z02 z4e z07) Tryz.func127 (by decide +kernel) (by kernel_rfl)
def zHU:List (Nat×Hint):=[]
noncomputable def z5J:Ent:=mkE tysC 89 [z4M] zHU Tryz.f89 [(.vw,.str)] false (.pair tyZt (.pair .bool .unit))
theorem zGL:z5J.Ok Tryz.prog:=z08 envC (z02 zAY z07) Tryz.func89 (by decide +kernel) (by kernel_rfl)
def zCi:List (Nat×Hint):=[]
noncomputable def z48:Ent:=mkE tysC 53 [z5J] zCi Tryz.f53 [(.vw,.str)] false (.pair (.pair tyZt (.pair (.lst true tyD) (.pair (.int .i64) .unit))) (.pair .bool .unit))
theorem zBy:z48.Ok Tryz.prog:=z08 envC (z02 zGL z07) Tryz.func53 (by decide +kernel) (by kernel_rfl)
def zL0:List (Nat×Hint):=[]
noncomputable def z2o:Ent:=mkE tysC 76 [] zL0 Tryz.f76 [(.vw,tyZf)] true tyZt
theorem zC1:z2o.Ok Tryz.prog:=z08 envC z07 Tryz.func76 (by decide +kernel) (by kernel_rfl)
def zJE:List (Nat×Hint):=[]
noncomputable def z3j:Ent:=mkE tysC 38 [z2o] zJE Tryz.f38 [(.vw,(.pair tyZf (.pair (.lst false tyD) (.pair (.int .i64) .unit))))] true (.pair tyZt (.pair (.lst true tyD) (.pair (.int .i64) .unit)))
theorem zAW:z3j.Ok Tryz.prog:=z08 envC (z02 zC1 z07) Tryz.func38 (by decide +kernel) (by kernel_rfl)
def zEM:List (Nat×Hint):=[(122,.loop ⟨[5,7],[(9,0,(.int .i64))],[]⟩ [(1,⟨[],[(4,0,(.int .i64))],[]⟩),(2,⟨[5,7],[],[]⟩)]),(488,.join [(0,⟨[5,7,9],[(31,0,.bool)],[]⟩)])]
noncomputable def z4c:Ent:=mkE tysC 187 [z0t] zEM Tryz.f187 [(.vw,.str),(.vw,.str)] true (.int .i64)
theorem zD9:z4c.Ok Tryz.prog:=z08 envC (z02 z4e z07) Tryz.func187 (by decide +kernel) (by kernel_rfl)
def zJG:List (Nat×Hint):=[]
noncomputable def z4K:Ent:=mkE tysC 188 [] zJG Tryz.f188 [(.vw,.bool)] true (.int .i64)
theorem zHl:z4K.Ok Tryz.prog:=z08 envC z07 Tryz.func188 (by decide +kernel) (by kernel_rfl)
def zEO:List (Nat×Hint):=[]
noncomputable def z19:Ent:=mkE tysC 162 [z4c,z1c,z4K] zEO Tryz.f162 [(.vw,tyR),(.vw,tyR)] true (.int .i64)
theorem z8N:z19.Ok Tryz.prog:=z08 envC (z02 zD9 (z02 z9X (z02 zHl z07))) Tryz.func162 (by decide +kernel) (by kernel_rfl)
def zJK:List (Nat×Hint):=[(26,.loop ⟨[0,5,6],[(7,0,(.int .i64))],[]⟩ [(1,⟨[2],[],[]⟩),(2,⟨[0],[],[]⟩)]),(1689,.join [(0,⟨[0,5,6,7],[(28,0,.bool)],[]⟩)])]
noncomputable def z5y:Ent:=mkE tysC 128 [z1g,z19] zJK Tryz.f128 [(.vw,tyRf)] true .bool
theorem zHn:z5y.Ok Tryz.prog:=z08 envC (z02 z69 (z02 z8N z07)) Tryz.func128 (by decide +kernel) (by kernel_rfl)
def zHX:List (Nat×Hint):=[(7,.join [(0,⟨[],[(4,0,.bool)],[]⟩)])]
noncomputable def z22:Ent:=mkE tysC 163 [] zHX Tryz.f163 [(.vw,.str),(.vw,.str)] true .bool
theorem z9V:z22.Ok Tryz.prog:=z08 envC z07 Tryz.func163 (by decide +kernel) (by kernel_rfl)
def zKz:List (Nat×Hint):=[(26,.loop ⟨[1,2,9,10],[(11,0,(.int .i64))],[]⟩ [(1,⟨[],[(6,0,.bool)],[]⟩),(2,⟨[],[],[]⟩)]),(1689,.join [(0,⟨[1,2,9,10,11],[(24,0,.bool)],[]⟩)])]
noncomputable def z2H:Ent:=mkE tysC 119 [] zKz Tryz.f119 [(.vw,tyRf),(.vw,.str),(.vw,(.int .i64))] true .bool
theorem z8i:z2H.Ok Tryz.prog:=z08 envC z07 Tryz.func119 (by decide +kernel) (by kernel_rfl)
def zFu:List (Nat×Hint):=[(26,.loop ⟨[0],[(3,0,(.int .i64))],[]⟩ [(1,⟨[],[(2,0,.str)],[]⟩),(2,⟨[],[],[]⟩)])]
noncomputable def z4A:Ent:=mkE tysC 189 [] zFu Tryz.f189 [(.vw,.str)] true .str
theorem zEa:z4A.Ok Tryz.prog:=z08 envC z07 Tryz.func189 (by decide +kernel) (by kernel_rfl)
def zKy:List (Nat×Hint):=[(60,.loop ⟨[0,1],[(2,0,.str),(8,0,.str),(9,0,.bool)],[]⟩ [(2,⟨[],[(8,0,.str),(9,0,.bool)],[]⟩)]),(482,.join [(0,⟨[0,1,2],[(8,0,.str),(9,0,.bool)],[]⟩)]),(240,.join [(0,⟨[0,1,2,8,9],[(17,0,.bool)],[]⟩)])]
noncomputable def z5g:Ent:=mkE tysC 164 [z22,z2H,z4A] zKy Tryz.f164 [(.vw,.str),(.vw,tyRf),(.vw,.str)] false (.pair .str (.pair .bool .unit))
theorem zJZ:z5g.Ok Tryz.prog:=z08 envC (z02 z9V (z02 z8i (z02 zEa z07))) Tryz.func164 (by decide +kernel) (by kernel_rfl)
def zJL:List (Nat×Hint):=[(2042,.loop ⟨[0,1,132,133],[(134,0,(.int .i64))],[]⟩ [(1,⟨[],[(4,0,(.int .i64))],[]⟩),(10,⟨[],[],[]⟩)]),(261427,.join [(0,⟨[0,1,132,133,134],[(162,0,.bool)],[]⟩)]),(506,.loop ⟨[0,1,97,98],[(99,0,(.int .i64))],[]⟩ [(1,⟨[],[(4,0,(.int .i64))],[]⟩),(6,⟨[0,1],[],[]⟩)]),(129638,.loop ⟨[0,1,11,97,98,99,106,107],[(108,0,(.int .i64))],[]⟩ [(1,⟨[],[(4,0,(.int .i64))],[]⟩),(8,⟨[0,1,97,98,99],[],[]⟩)]),(8296857,.join [(0,⟨[0,1,11,97,98,99,106,107,108],[(126,0,.bool)],[]⟩)]),(250,.loop ⟨[0,1,43,44],[(45,0,(.int .i64))],[]⟩ [(1,⟨[],[(4,0,(.int .i64))],[]⟩),(4,⟨[0,1],[],[]⟩)]),(16025,.join [(0,⟨[0,1,43,44,45],[(95,0,.bool)],[]⟩)]),(58,.loop ⟨[0,1,18,19],[(5,0,(.int .i64)),(20,0,(.int .i64))],[]⟩ [(1,⟨[],[(4,0,(.int .i64))],[]⟩),(2,⟨[0,1],[(5,0,(.int .i64))],[]⟩)]),(467,.join [(0,⟨[0,1,18,19,20],[(5,0,(.int .i64))],[]⟩),(1,⟨[],[(4,0,(.int .i64))],[]⟩)])]
noncomputable def z4N:Ent:=mkE tysC 122 [z22,z2H,z5g] zJL Tryz.f122 [(.vw,.str),(.vw,tyRf)] true (.int .i64)
theorem zAZ:z4N.Ok Tryz.prog:=z08 envC (z02 z9V (z02 z8i (z02 zJZ z07))) Tryz.func122 (by decide +kernel) (by kernel_rfl)
def zJD:List (Nat×Hint):=[(6,.join [(0,⟨[0,1],[(12,0,.bool)],[]⟩)])]
noncomputable def z5x:Ent:=mkE tysC 82 [z4M,z5y,z4N] zJD Tryz.f82 [(.vw,.str),(.vw,tyRf)] true (.int .i64)
theorem zHk:z5x.Ok Tryz.prog:=z08 envC (z02 zAY (z02 zHn (z02 zAZ z07))) Tryz.func82 (by decide +kernel) (by kernel_rfl)
def zL1:List (Nat×Hint):=[]
noncomputable def z4H:Ent:=mkE tysC 83 [z1Z] zL1 Tryz.f83 [(.vw,tyZf)] true .str
theorem zC2:z4H.Ok Tryz.prog:=z08 envC (z02 z74 z07) Tryz.func83 (by decide +kernel) (by kernel_rfl)
def zFr:List (Nat×Hint):=[(58,.loop ⟨[1,18,19],[(20,0,(.int .i64))],[]⟩ [(1,⟨[],[(2,0,.bool)],[]⟩),(2,⟨[],[],[]⟩)]),(3737,.join [(0,⟨[1,18,19,20],[(33,0,.bool)],[]⟩)]),(6,.join [(0,⟨[1],[(16,0,.bool)],[]⟩)])]
noncomputable def z3Q:Ent:=mkE tysC 47 [z0i,z5x,z4H] zFr Tryz.f47 [(.vw,tyZf)] true .bool
theorem z8x:z3Q.Ok Tryz.prog:=z08 envC (z02 z3m (z02 zHk (z02 zC2 z07))) Tryz.func47 (by decide +kernel) (by kernel_rfl)
def zJJ:List (Nat×Hint):=[(58,.loop ⟨[3,8,9],[(5,0,tyRt),(10,0,(.int .i64))],[]⟩ [(2,⟨[],[(5,0,tyRt)],[]⟩)]),(467,.join [(0,⟨[3,8,9,10],[(5,0,tyRt)],[]⟩)]),(3737,.join [(0,⟨[3,5,7,8,9,10],[(32,0,.bool)],[]⟩)]),(0,.frz [4])]
noncomputable def z1r:Ent:=mkE tysC 120 [] zJJ Tryz.f120 [(.vw,tyRf),(.vw,tyR)] true tyRt
theorem zHm:z1r.Ok Tryz.prog:=z08 envC z07 Tryz.func120 (by decide +kernel) (by kernel_rfl)
def zKx:List (Nat×Hint):=[(30,.join [(0,⟨[0,3,5],[(33,0,.bool)],[]⟩)]),(28,.loop ⟨[0,3],[(5,0,(.int .i64))],[]⟩ [(2,⟨[0,3],[(5,0,(.int .i64))],[]⟩)]),(112,.join [(0,⟨[0,3,5],[(19,0,.bool)],[]⟩)]),(0,.frz [4])]
noncomputable def z4G:Ent:=mkE tysC 121 [z19] zKx Tryz.f121 [(.own,tyRt),(.vw,tyR)] true tyRt
theorem zJY:z4G.Ok Tryz.prog:=z08 envC (z02 z8N z07) Tryz.func121 (by decide +kernel) (by kernel_rfl)
def zCg:List (Nat×Hint):=[(8186,.loop ⟨[4,9,108,109],[(12,2,tyZt),(110,0,(.int .i64))],[]⟩ [(7,⟨[4],[(12,2,tyZt)],[]⟩)]),(523929,.join [(0,⟨[4,9,12,108,109,110],[(14,2,tyR)],[]⟩)]),(254,.join [(0,⟨[2,4,9],[(92,0,.bool)],[]⟩)]),(506,.loop ⟨[2,4,61,62],[(9,0,tyRt),(63,0,(.int .i64))],[]⟩ [(4,⟨[2,4],[(9,0,tyRt)],[]⟩)]),(4051,.join [(0,⟨[2,4,61,62,63],[(9,0,tyRt)],[]⟩)]),(122,.loop ⟨[1,2,4,24,25],[(26,0,(.int .i64))],[]⟩ [(1,⟨[],[(4,2,tyZt),(5,0,(.int .i64))],[]⟩),(2,⟨[1,2,4],[],[]⟩)]),(15667,.join [(0,⟨[1,2,4,24,25,26],[(53,0,.bool)],[]⟩)])]
noncomputable def z3H:Ent:=mkE tysC 75 [z3Q,z3E,z2o,z2H,z1r,z4G,z4N,z4H] zCg Tryz.f75 [(.vw,tyZf),(.vw,(.lst false (.pair (.int .i64) (.pair tyR .unit))))] false (.pair tyZt (.pair (.int .i64) .unit))
theorem zBx:z3H.Ok Tryz.prog:=z08 envC (z02 z8x (z02 z9Y (z02 zC1 (z02 z8i (z02 zHm (z02 zJY (z02 zAZ (z02 zC2 z07)))))))) Tryz.func75 (by decide +kernel) (by kernel_rfl)
def zHV:List (Nat×Hint):=[(8191,.join [(0,⟨[2,4,5,9,11,12],[(7,0,(.int .i64))],[]⟩)]),(254,.join [(0,⟨[2,3,4,5,7,8],[(99,0,.bool)],[]⟩)]),(126,.join [(0,⟨[2,3,4,5,7,8],[(66,0,.bool)],[]⟩)]),(31,.join [(0,⟨[2,3,4,5,7],[(8,0,.bool)],[]⟩)]),(60,.loop ⟨[2,3,4,5],[(7,0,(.int .i64))],[]⟩ [(2,⟨[2,3,4,5],[(7,0,(.int .i64))],[]⟩)]),(240,.join [(0,⟨[2,3,4,5,7],[(36,0,.bool)],[]⟩)]),(0,.frz [67])]
noncomputable def z2h:Ent:=mkE tysC 37 [z2i,z3H] zHV Tryz.f37 [(.own,(.pair tyZt (.pair (.lst true tyD) (.pair (.int .i64) .unit)))),(.vw,(.pair (.int .i64) (.pair (.int .i64) (.pair (.lst false (.pair (.int .i64) (.pair tyR .unit))) .unit))))] false (.pair (.pair tyZt (.pair (.lst true tyD) (.pair (.int .i64) .unit))) (.pair tyD (.pair .bool .unit)))
theorem z9U:z2h.Ok Tryz.prog:=z08 envC (z02 z81 (z02 zBx z07)) Tryz.func37 (by decide +kernel) (by kernel_rfl)
def zEJ:List (Nat×Hint):=[(250,.loop ⟨[4,28,29],[(7,2,(.pair tyZt (.pair (.lst true tyD) (.pair (.int .i64) .unit)))),(9,0,(.lst true tyD)),(30,0,(.int .i64))],[]⟩ [(2,⟨[4],[(7,2,(.pair tyZt (.pair (.lst true tyD) (.pair (.int .i64) .unit)))),(9,0,(.lst true tyD))],[]⟩)]),(32051,.join [(0,⟨[4,9,13,28,29,30],[(7,2,(.pair tyZt (.pair (.lst true tyD) (.pair (.int .i64) .unit))))],[]⟩)]),(14,.join [(0,⟨[1,4,7],[(26,0,.bool)],[]⟩)]),(0,.frz [5])]
noncomputable def z34:Ent:=mkE tysC 19 [z48,z3j,z2h] zEJ Tryz.f19 [(.vw,.str),(.vw,(.lst false (.pair (.int .i64) (.pair (.int .i64) (.pair (.lst false (.pair (.int .i64) (.pair tyR .unit))) .unit)))))] false (.pair (.pair tyZt (.pair (.lst true tyD) (.pair (.int .i64) .unit))) (.pair (.lst true tyD) (.pair .bool .unit)))
theorem z8M:z34.Ok Tryz.prog:=z08 envC (z02 zBy (z02 zAW (z02 z9U z07))) Tryz.func19 (by decide +kernel) (by kernel_rfl)
def zAC:List (Nat×Hint):=[(31,.join [(0,⟨[2],[(0,2,(.pair (.lst false (.int .u8)) (.pair (.int .i64) (.pair (.int .u64) .unit)))),(4,2,(.pair tyZt (.pair (.lst true tyD) (.pair (.int .i64) .unit))))],[]⟩)]),(7,.join [(0,⟨[0,2],[(3,0,(.lst true (.pair (.int .i64) (.pair (.int .i64) (.pair (.lst false (.pair (.int .i64) (.pair tyR .unit))) .unit)))))],[]⟩)]),(0,.frz [25])]
noncomputable def z36:Ent:=mkE tysC 34 [z1R,z34,z09,z0e] zAC Tryz.f34 [(.iop,(.pair (.lst false (.int .u8)) (.pair (.int .i64) (.pair (.int .u64) .unit))))] true (.pair tyZt (.pair (.lst true tyD) (.pair (.int .i64) .unit)))
theorem z9W:z36.Ok Tryz.prog:=z08 envC (z02 z6A (z02 z8M (z02 z1U (z02 z4Q z07)))) Tryz.func34 (by decide +kernel) (by kernel_rfl)
def zAB:List (Nat×Hint):=[]
noncomputable def z2D:Ent:=mkE tysC 10 [z36,z0o] zAB Tryz.f10 [(.vw,(.lst false (.int .u8)))] false (.pair (.pair tyZt (.pair (.lst true tyD) (.pair (.int .i64) .unit))) (.pair (.pair (.int .i64) (.pair (.int .i64) (.pair (.lst true (.pair (.int .i64) (.pair tyR .unit))) .unit))) .unit))
theorem z9T:z2D.Ok Tryz.prog:=z08 envC (z02 z9W (z02 z3s z07)) Tryz.func10 (by decide +kernel) (by kernel_rfl)
def zED:List (Nat×Hint):=[]
noncomputable def z4X:Ent:=mkE tysC 78 [z0j] zED Tryz.f78 [(.vw,(.int .i64))] true .bool
theorem zD1:z4X.Ok Tryz.prog:=z08 envC (z02 z3F z07) Tryz.func78 (by decide +kernel) (by kernel_rfl)
def zJ9:List (Nat×Hint):=[(3,.join [(0,⟨[],[(2,0,.bool)],[]⟩)])]
noncomputable def z5t:Ent:=mkE tysC 165 [z25,z1j] zJ9 Tryz.f165 [(.vw,.str)] true .bool
theorem zHh:z5t.Ok Tryz.prog:=z08 envC (z02 z6r (z02 z7R z07)) Tryz.func165 (by decide +kernel) (by kernel_rfl)
def z6f:List (Nat×Hint):=[(6,.loop ⟨[],[(0,0,(.lst true .str)),(2,0,(.int .i64)),(3,0,(.int .i64))],[]⟩ [(2,⟨[],[(0,0,(.lst true .str))],[]⟩)])]
noncomputable def z0u:Ent:=mkE tysC 224 [] z6f Tryz.f224 [(.io,(.lst true .str))] false .unit
theorem z6R:z0u.Ok Tryz.prog:=z08 envC z07 Tryz.func224 (by decide +kernel) (by kernel_rfl)
def zBc:List (Nat×Hint):=[]
noncomputable def z2y:Ent:=mkE tysC 231 [] zBc Tryz.f231 [(.vw,.str)] true .bool
theorem zB2:z2y.Ok Tryz.prog:=z08 envC z07 Tryz.func231 (by decide +kernel) (by kernel_rfl)
def zA8:List (Nat×Hint):=[]
noncomputable def z1h:Ent:=mkE tysC 230 [z2y] zA8 Tryz.f230 [(.vw,.str),(.vw,.str)] true (.int .i64)
theorem z9O:z1h.Ok Tryz.prog:=z08 envC (z02 zB2 z07) Tryz.func230 (by decide +kernel) (by kernel_rfl)
def z6e:List (Nat×Hint):=[(26,.loop ⟨[0,1,9,10],[(11,0,(.int .i64))],[]⟩ [(1,⟨[],[(4,0,(.int .i64))],[]⟩),(2,⟨[0,1],[],[]⟩)])]
noncomputable def z1D:Ent:=mkE tysC 225 [z1h] z6e Tryz.f225 [(.vw,(.lst false .str)),(.vw,(.lst false .str))] true (.int .i64)
theorem z6Q:z1D.Ok Tryz.prog:=z08 envC (z02 z9O z07) Tryz.func225 (by decide +kernel) (by kernel_rfl)
def zAs:List (Nat×Hint):=[]
noncomputable def z3O:Ent:=mkE tysC 217 [z1o,z0u,z1D] zAs Tryz.f217 [(.vw,.str),(.vw,.str)] true (.int .i64)
theorem zAE:z3O.Ok Tryz.prog:=z08 envC (z02 z6t (z02 z6R (z02 z6Q z07))) Tryz.func217 (by decide +kernel) (by kernel_rfl)
def zFa:List (Nat×Hint):=[]
noncomputable def z3x:Ent:=mkE tysC 129 [] zFa Tryz.f129 [(.vw,(.int .i64))] true .bool
theorem zEP:z3x.Ok Tryz.prog:=z08 envC z07 Tryz.func129 (by decide +kernel) (by kernel_rfl)
def zCW:List (Nat×Hint):=[]
noncomputable def z1e:Ent:=mkE tysC 86 [z3x] zCW Tryz.f86 [(.vw,(.int .i64)),(.vw,(.int .i64))] true (.int .i64)
theorem z66:z1e.Ok Tryz.prog:=z08 envC (z02 zEP z07) Tryz.func86 (by decide +kernel) (by kernel_rfl)
def zKu:List (Nat×Hint):=[(58,.loop ⟨[3,6,7],[(8,0,(.int .i64))],[]⟩ [(1,⟨[],[(2,0,(.int .i64))],[]⟩),(2,⟨[3],[],[]⟩)])]
noncomputable def z4p:Ent:=mkE tysC 202 [] zKu Tryz.f202 [(.vw,(.lst false (.int .i64)))] true (.int .i64)
theorem zBr:z4p.Ok Tryz.prog:=z08 envC z07 Tryz.func202 (by decide +kernel) (by kernel_rfl)
def zBf:List (Nat×Hint):=[]
noncomputable def z3h:Ent:=mkE tysC 203 [z3O,z1e,z4p] zBf Tryz.f203 [(.vw,tyR),(.vw,tyR)] true (.int .i64)
theorem zB4:z3h.Ok Tryz.prog:=z08 envC (z02 zAE (z02 z66 (z02 zBr z07))) Tryz.func203 (by decide +kernel) (by kernel_rfl)
def zEC:List (Nat×Hint):=[]
noncomputable def z3e:Ent:=mkE tysC 205 [z18] zEC Tryz.f205 [(.vw,(.int .i64)),(.vw,.str)] true .str
theorem zD0:z3e.Ok Tryz.prog:=z08 envC (z02 z8I z07) Tryz.func205 (by decide +kernel) (by kernel_rfl)
noncomputable abbrev z3J:Ent:=zF1 204
theorem zC3:z3J.Ok Tryz.prog:=zMI Tryz.l106 (by kernel_rfl) Tryz.func204 (by decide +kernel) rfl
def z9G:List (Nat×Hint):=[]
noncomputable def z10:Ent:=mkE tysC 185 [z3h,z3e,z3J,z1e,z4p] z9G Tryz.f185 [(.vw,tyR),(.vw,tyR)] true (.int .i64)
theorem z6L:z10.Ok Tryz.prog:=z08 envC (z02 zB4 (z02 zD0 (z02 zC3 (z02 z66 (z02 zBr z07))))) Tryz.func185 (by decide +kernel) (by kernel_rfl)
def zE9:List (Nat×Hint):=[(26,.loop ⟨[0,5,6],[(7,0,(.int .i64))],[]⟩ [(1,⟨[2],[],[]⟩),(2,⟨[],[],[]⟩)]),(1689,.join [(0,⟨[0,5,6,7],[(28,0,.bool)],[]⟩)])]
noncomputable def z4V:Ent:=mkE tysC 166 [z1f,z10] zE9 Tryz.f166 [(.vw,tyRf)] true .bool
theorem zCy:z4V.Ok Tryz.prog:=z08 envC (z02 z67 (z02 z6L z07)) Tryz.func166 (by decide +kernel) (by kernel_rfl)
def zHR:List (Nat×Hint):=[(3,.join [(0,⟨[],[(4,0,.bool)],[]⟩)])]
noncomputable def z5G:Ent:=mkE tysC 123 [z5t,z4V] zHR Tryz.f123 [(.vw,.str),(.vw,tyRf)] true .bool
theorem zGI:z5G.Ok Tryz.prog:=z08 envC (z02 zHh (z02 zCy z07)) Tryz.func123 (by decide +kernel) (by kernel_rfl)
def z6G:List (Nat×Hint):=[(3,.join [(0,⟨[],[(4,0,.bool)],[]⟩)])]
noncomputable def z14:Ent:=mkE tysC 208 [] z6G Tryz.f208 [(.vw,.str),(.vw,.str)] true .bool
theorem z68:z14.Ok Tryz.prog:=z08 envC z07 Tryz.func208 (by decide +kernel) (by kernel_rfl)
def zAx:List (Nat×Hint):=[]
noncomputable def z3T:Ent:=mkE tysC 190 [z14] zAx Tryz.f190 [(.vw,.str),(.vw,.str)] true .bool
theorem zAJ:z3T.Ok Tryz.prog:=z08 envC (z02 z68 z07) Tryz.func190 (by decide +kernel) (by kernel_rfl)
def zHP:List (Nat×Hint):=[(3,.join [(0,⟨[],[(4,0,.bool)],[]⟩)])]
noncomputable def z3o:Ent:=mkE tysC 168 [z3T] zHP Tryz.f168 [(.vw,.str),(.vw,.str)] true .bool
theorem z9P:z3o.Ok Tryz.prog:=z08 envC (z02 zAJ z07) Tryz.func168 (by decide +kernel) (by kernel_rfl)
def zPh:List (Nat×Hint):=[(58,.loop ⟨[1,2,11,12],[(7,0,tyRt),(13,0,(.int .i64))],[]⟩ [(2,⟨[],[(7,0,tyRt)],[]⟩)]),(467,.join [(0,⟨[1,2,11,12,13],[(7,0,tyRt)],[]⟩)]),(3737,.join [(0,⟨[1,2,7,9,11,12,13],[(30,0,.bool)],[]⟩)]),(0,.frz [6])]
noncomputable def z42:Ent:=mkE tysC 80 [] zPh Tryz.f80 [(.vw,tyRf),(.vw,.str),(.vw,(.int .i64))] true tyRt
theorem zA1:z42.Ok Tryz.prog:=z08 envC z07 Tryz.func80 (by decide +kernel) (by kernel_rfl)
def zFf:List (Nat×Hint):=[(3,.join [(0,⟨[],[(3,0,.bool)],[]⟩)])]
noncomputable def z43:Ent:=mkE tysC 169 [] zFf Tryz.f169 [(.vw,tyR),(.vw,(.ptr tyR))] true .bool
theorem zES:z43.Ok Tryz.prog:=z08 envC z07 Tryz.func169 (by decide +kernel) (by kernel_rfl)
def z2q:List (Nat×Hint):=[(26,.loop ⟨[0,1,7],[(8,0,(.int .i64))],[]⟩ [(1,⟨[],[(4,0,(.int .i64))],[]⟩),(2,⟨[],[],[]⟩)])]
noncomputable def z0T:Ent:=mkE tysC 167 [z43] z2q Tryz.f167 [(.vw,tyRf),(.vw,(.fn 169 (.pair (.ptr tyR) .unit)))] true (.int .i64)
theorem z2l:z0T.Ok Tryz.prog:=z08 envC (z02 zES z07) Tryz.func167 (by decide +kernel) (by kernel_rfl)
def z2O:List (Nat×Hint):=[]
noncomputable def z0N:Ent:=mkE tysC 124 [z0T] z2O Tryz.f124 [(.vw,tyRf),(.vw,(.fn 169 (.pair (.ptr tyR) .unit)))] true .bool
theorem z2L:z0N.Ok Tryz.prog:=z08 envC (z02 z2l z07) Tryz.func124 (by decide +kernel) (by kernel_rfl)
def zFg:List (Nat×Hint):=[(7,.join [(0,⟨[],[(4,0,.bool)],[]⟩)]),(3,.join [(0,⟨[2,3],[(5,0,.bool)],[]⟩)])]
noncomputable def z44:Ent:=mkE tysC 170 [z3o] zFg Tryz.f170 [(.vw,tyR),(.vw,(.ptr .str)),(.vw,(.ptr tyR))] true .bool
theorem zET:z44.Ok Tryz.prog:=z08 envC (z02 z9P z07) Tryz.func170 (by decide +kernel) (by kernel_rfl)
def z2r:List (Nat×Hint):=[(26,.loop ⟨[0,1,7],[(8,0,(.int .i64))],[]⟩ [(1,⟨[],[(4,0,(.int .i64))],[]⟩),(2,⟨[],[],[]⟩)])]
noncomputable def z0U:Ent:=mkE tysC 167 [z44] z2r Tryz.f167 [(.vw,tyRf),(.vw,(.fn 170 (.pair (.ptr .str) (.pair (.ptr tyR) .unit))))] true (.int .i64)
theorem z2m:z0U.Ok Tryz.prog:=z08 envC (z02 zET z07) Tryz.func167 (by decide +kernel) (by kernel_rfl)
def z2P:List (Nat×Hint):=[]
noncomputable def z0O:Ent:=mkE tysC 124 [z0U] z2P Tryz.f124 [(.vw,tyRf),(.vw,(.fn 170 (.pair (.ptr .str) (.pair (.ptr tyR) .unit))))] true .bool
theorem z2M:z0O.Ok Tryz.prog:=z08 envC (z02 z2m z07) Tryz.func124 (by decide +kernel) (by kernel_rfl)
def zJ8:List (Nat×Hint):=[(27646,.join [(0,⟨[],[(8,0,.bool)],[]⟩)]),(6910,.join [(0,⟨[],[(8,0,.bool)],[]⟩)]),(430,.join [(0,⟨[],[(8,0,.bool)],[]⟩)])]
noncomputable def z5s:Ent:=mkE tysC 126 [z3o,z42,z0N,z0O] zJ8 Tryz.f126 [(.vw,.str),(.vw,tyRf),(.vw,tyR),(.vw,(.int .i64))] true .bool
theorem zHg:z5s.Ok Tryz.prog:=z08 envC (z02 z9P (z02 zA1 (z02 z2L (z02 z2M z07)))) Tryz.func126 (by decide +kernel) (by kernel_rfl)
def zFe:List (Nat×Hint):=[]
noncomputable def z41:Ent:=mkE tysC 125 [z5s] zFe Tryz.f125 [(.vw,tyR),(.vw,(.ptr .str)),(.vw,(.ptr tyRf)),(.vw,(.ptr (.int .i64)))] true .bool
theorem zER:z41.Ok Tryz.prog:=z08 envC (z02 zHg z07) Tryz.func125 (by decide +kernel) (by kernel_rfl)
def z2p:List (Nat×Hint):=[(26,.loop ⟨[0,1,7],[(8,0,(.int .i64))],[]⟩ [(1,⟨[],[(4,0,(.int .i64))],[]⟩),(2,⟨[],[],[]⟩)])]
noncomputable def z0S:Ent:=mkE tysC 167 [z41] z2p Tryz.f167 [(.vw,tyRf),(.vw,(.fn 125 (.pair (.ptr .str) (.pair (.ptr tyRf) (.pair (.ptr (.int .i64)) .unit)))))] true (.int .i64)
theorem z2k:z0S.Ok Tryz.prog:=z08 envC (z02 zER z07) Tryz.func167 (by decide +kernel) (by kernel_rfl)
def z2N:List (Nat×Hint):=[]
noncomputable def z0H:Ent:=mkE tysC 124 [z0S] z2N Tryz.f124 [(.vw,tyRf),(.vw,(.fn 125 (.pair (.ptr .str) (.pair (.ptr tyRf) (.pair (.ptr (.int .i64)) .unit)))))] true .bool
theorem z2K:z0H.Ok Tryz.prog:=z08 envC (z02 z2k z07) Tryz.func124 (by decide +kernel) (by kernel_rfl)
def zJ7:List (Nat×Hint):=[(58,.loop ⟨[2,3],[(5,2,(.int .i64))],[]⟩ [(1,⟨[],[(4,0,(.int .i64))],[]⟩),(2,⟨[],[],[]⟩)]),(932,.join [(0,⟨[2,3,5],[(27,0,.bool)],[]⟩)])]
noncomputable def z4J:Ent:=mkE tysC 79 [z5G,z0H,z42] zJ7 Tryz.f79 [(.vw,.str),(.vw,tyRf)] true (.int .i64)
theorem zAV:z4J.Ok Tryz.prog:=z08 envC (z02 zGI (z02 z2K (z02 zA1 z07))) Tryz.func79 (by decide +kernel) (by kernel_rfl)
def zCf:List (Nat×Hint):=[]
noncomputable def z2Z:Ent:=mkE tysC 81 [z12] zCf Tryz.f81 [(.vw,(.int .i64))] true .str
theorem z7l:z2Z.Ok Tryz.prog:=z08 envC (z02 z6C z07) Tryz.func81 (by decide +kernel) (by kernel_rfl)
def zFd:List (Nat×Hint):=[(3,.join [(0,⟨[],[(2,0,.bool)],[]⟩)])]
noncomputable def z3N:Ent:=mkE tysC 40 [z4X,z4J,z42,z2Z] zFd Tryz.f40 [(.vw,tyZf)] true .bool
theorem z8u:z3N.Ok Tryz.prog:=z08 envC (z02 zD1 (z02 zAV (z02 zA1 (z02 z7l z07)))) Tryz.func40 (by decide +kernel) (by kernel_rfl)
def zFi:List (Nat×Hint):=[]
noncomputable def z4q:Ent:=mkE tysC 43 [z0j] zFi Tryz.f43 [(.vw,(.int .i64))] true .bool
theorem zEU:z4q.Ok Tryz.prog:=z08 envC (z02 z3F z07) Tryz.func43 (by decide +kernel) (by kernel_rfl)
def zBe:List (Nat×Hint):=[(58,.loop ⟨[1,22,23],[(24,0,(.int .i64))],[]⟩ [(1,⟨[],[(2,0,.bool)],[]⟩),(2,⟨[],[],[]⟩)]),(3737,.join [(0,⟨[1,22,23,24],[(62,0,.bool)],[]⟩)]),(6,.join [(0,⟨[1],[(20,0,.bool)],[]⟩)])]
noncomputable def z0z:Ent:=mkE tysC 14 [z3N,z0j,z1n,z4q] zBe Tryz.f14 [(.vw,(.pair tyZf (.pair (.lst false tyD) (.pair (.int .i64) .unit))))] true .bool
theorem z5b:z0z.Ok Tryz.prog:=z08 envC (z02 z8u (z02 z3F (z02 z6s (z02 zEU z07)))) Tryz.func14 (by decide +kernel) (by kernel_rfl)
def z4y:List (Nat×Hint):=[]
noncomputable def z0M:Ent:=mkE tysC 157 [] z4y Tryz.f157 [(.vw,tyRf)] true tyRt
theorem z1b:z0M.Ok Tryz.prog:=z08 envC z07 Tryz.func157 (by decide +kernel) (by kernel_rfl)
def zHS:List (Nat×Hint):=[]
noncomputable def z5H:Ent:=mkE tysC 111 [z0M] zHS Tryz.f111 [(.vw,tyZf)] true tyZt
theorem zGJ:z5H.Ok Tryz.prog:=z08 envC (z02 z1b z07) Tryz.func111 (by decide +kernel) (by kernel_rfl)
def z5l:List (Nat×Hint):=[]
noncomputable def z0v:Ent:=mkE tysC 112 [] z5l Tryz.f112 [(.vw,(.lst false tyD))] true (.lst true tyD)
theorem z5c:z0v.Ok Tryz.prog:=z08 envC z07 Tryz.func112 (by decide +kernel) (by kernel_rfl)
def zCd:List (Nat×Hint):=[]
noncomputable def z47:Ent:=mkE tysC 72 [z5H,z0v] zCd Tryz.f72 [(.vw,(.pair tyZf (.pair (.lst false tyD) (.pair (.int .i64) .unit))))] true (.pair tyZt (.pair (.lst true tyD) (.pair (.int .i64) .unit)))
theorem zBw:z47.Ok Tryz.prog:=z08 envC (z02 zGJ (z02 z5c z07)) Tryz.func72 (by decide +kernel) (by kernel_rfl)
def z9F:List (Nat×Hint):=[]
noncomputable def z1V:Ent:=mkE tysC 85 [z1e] z9F Tryz.f85 [(.vw,tyD),(.vw,(.int .i64))] true (.int .i64)
theorem z92:z1V.Ok Tryz.prog:=z08 envC (z02 z66 z07) Tryz.func85 (by decide +kernel) (by kernel_rfl)
def z1k:List (Nat×Hint):=[(31,.join [(0,⟨[],[(6,0,(.int .i64)),(7,0,.bool)],[]⟩)]),(60,.loop ⟨[0,1,2,8],[(9,0,(.int .i64)),(10,0,(.int .i64))],[]⟩ [(2,⟨[0,1,2,8],[(9,0,(.int .i64))],[]⟩)])]
noncomputable def z0R:Ent:=mkE tysC 84 [z1V] z1k Tryz.f84 [(.vw,(.lst false tyD)),(.vw,(.int .i64)),(.vw,(.fn 85 .unit))] false (.pair (.int .i64) (.pair .bool .unit))
theorem z1i:z0R.Ok Tryz.prog:=z08 envC (z02 z92 z07) Tryz.func84 (by decide +kernel) (by kernel_rfl)
def zAp:List (Nat×Hint):=[]
noncomputable def z1u:Ent:=mkE tysC 48 [z0R] zAp Tryz.f48 [(.vw,(.pair tyZf (.pair (.lst false tyD) (.pair (.int .i64) .unit)))),(.vw,(.int .i64))] false (.pair (.int .i64) (.pair .bool .unit))
theorem z6y:z1u.Ok Tryz.prog:=z08 envC (z02 z1i z07) Tryz.func48 (by decide +kernel) (by kernel_rfl)
def Tryz.insR73:Go.Shelf.Ren:=⟨fun | 22=>73 | 29=>113 | 30=>114 | n=>n,fun | 0=>0 | 3=>3 | 4=>4 | 9=>40 | 24=>34 | n=>n,fun n=>n⟩
noncomputable def Tryz.insI73:TypeInfo:=(Tryz.prog.info? 40).getD default
noncomputable def Tryz.insZ73:Value:=Tryz.insI73.zero.getD default
theorem Tryz.insL73:InsL Tryz.prog Tryz.insR73 Tryz.insI73 Tryz.insZ73:={
 mixed:=by kernel_rfl
 f22:=⟨Tryz.f73.name,by kernel_rfl,Tryz.func73.trans (congrArg some (by kernel_rfl))⟩
 f29:=fun args w=>run_callFunc_extern Tryz.func113 (by kernel_rfl) (by kernel_rfl) (by kernel_rfl) (by kernel_rfl) args w
 t0:=Tryz.underlying0
 a0:=Tryz.isAgg0
 z0:=Tryz.sizeOf0
 v0:=Tryz.zeroValue0
 t3:=Tryz.underlying3
 a3:=Tryz.isAgg3
 z3:=Tryz.sizeOf3
 v3:=Tryz.zeroValue3
 t4:=Tryz.underlying4
 a4:=Tryz.isAgg4
 z4:=Tryz.sizeOf4
 v4:=Tryz.zeroValue4
 z9:=Tryz.sizeOf40
 t24:=Tryz.underlying34
 a24:=Tryz.isAgg34
 z24:=Tryz.sizeOf34
 v24:=Tryz.zeroValue34
 i9:=by kernel_rfl
 iz:=by kernel_rfl
 is:=of_decide_eq_true (by kernel_rfl)
 ic:=by kernel_rfl }
noncomputable abbrev z1H:Ent:=insE 73 tyD 32
theorem z5O:z1H.Ok Tryz.prog:=zPi Tryz.insL73 (by kernel_rfl) Tryz.func73 (by decide +kernel) rfl (by kernel_rfl) (by kernel_rfl) rfl rfl rfl
def zJA:List (Nat×Hint):=[(7,.join [(0,⟨[],[(4,0,.bool)],[]⟩)])]
noncomputable def z5u:Ent:=mkE tysC 116 [z42] zJA Tryz.f116 [(.vw,tyZf),(.vw,(.pair (.int .i64) (.pair tyR .unit)))] true .bool
theorem zHi:z5u.Ok Tryz.prog:=z08 envC (z02 zA1 z07) Tryz.func116 (by decide +kernel) (by kernel_rfl)
def zHM:List (Nat×Hint):=[]
noncomputable def z4h:Ent:=mkE tysC 115 [z5u] zHM Tryz.f115 [(.vw,(.pair (.int .i64) (.pair tyR .unit))),(.vw,(.ptr tyZf))] true .bool
theorem zGE:z4h.Ok Tryz.prog:=z08 envC (z02 zHi z07) Tryz.func115 (by decide +kernel) (by kernel_rfl)
def z2w:List (Nat×Hint):=[(26,.loop ⟨[0,1,7],[(8,0,(.int .i64))],[]⟩ [(1,⟨[],[(4,0,(.int .i64))],[]⟩),(2,⟨[],[],[]⟩)])]
noncomputable def z0V:Ent:=mkE tysC 130 [z4h] z2w Tryz.f130 [(.vw,(.lst false (.pair (.int .i64) (.pair tyR .unit)))),(.vw,(.fn 115 (.pair (.ptr tyZf) .unit)))] true (.int .i64)
theorem z2s:z0V.Ok Tryz.prog:=z08 envC (z02 zGE z07) Tryz.func130 (by decide +kernel) (by kernel_rfl)
def z2c:List (Nat×Hint):=[]
noncomputable def z0Q:Ent:=mkE tysC 90 [z0V] z2c Tryz.f90 [(.vw,(.lst false (.pair (.int .i64) (.pair tyR .unit)))),(.vw,(.fn 115 (.pair (.ptr tyZf) .unit)))] true .bool
theorem z2R:z0Q.Ok Tryz.prog:=z08 envC (z02 z2s z07) Tryz.func90 (by decide +kernel) (by kernel_rfl)
def zEB:List (Nat×Hint):=[(3,.join [(0,⟨[],[(3,0,.bool)],[]⟩)])]
noncomputable def z1q:Ent:=mkE tysC 160 [] zEB Tryz.f160 [(.vw,tyR),(.vw,(.ptr tyR))] true .bool
theorem z8K:z1q.Ok Tryz.prog:=z08 envC z07 Tryz.func160 (by decide +kernel) (by kernel_rfl)
def z2j:List (Nat×Hint):=[(26,.loop ⟨[0,1,7],[(8,0,(.int .i64))],[]⟩ [(1,⟨[],[(4,0,(.int .i64))],[]⟩),(2,⟨[],[],[]⟩)])]
noncomputable def z0J:Ent:=mkE tysC 167 [z1q] z2j Tryz.f167 [(.vw,tyRf),(.vw,(.fn 160 (.pair (.ptr tyR) .unit)))] true (.int .i64)
theorem z2e:z0J.Ok Tryz.prog:=z08 envC (z02 z8K z07) Tryz.func167 (by decide +kernel) (by kernel_rfl)
def z2d:List (Nat×Hint):=[(122,.loop ⟨[1],[(0,0,tyRt),(5,0,(.int .i64)),(6,0,(.int .i64))],[]⟩ [(2,⟨[],[(0,0,tyRt),(5,0,(.int .i64))],[]⟩)]),(489,.join [(0,⟨[1,6],[(0,0,tyRt),(5,0,(.int .i64))],[]⟩)]),(0,.frz [4])]
noncomputable def z0C:Ent:=mkE tysC 159 [z0J,z1q] z2d Tryz.f159 [(.own,tyRt),(.vw,(.fn 160 (.pair (.ptr tyR) .unit)))] true tyRt
theorem z2S:z0C.Ok Tryz.prog:=z08 envC (z02 z2e (z02 z8K z07)) Tryz.func159 (by decide +kernel) (by kernel_rfl)
def z1K:List (Nat×Hint):=[(31,.join [(0,⟨[],[(6,0,(.int .i64)),(7,0,.bool)],[]⟩)]),(60,.loop ⟨[0,2,4,8],[(9,0,(.int .i64)),(10,0,(.int .i64))],[]⟩ [(2,⟨[0,2,4,8],[(9,0,(.int .i64))],[]⟩)])]
noncomputable def z0A:Ent:=mkE tysC 184 [z10] z1K Tryz.f184 [(.vw,tyRf),(.vw,tyR),(.vw,(.fn 185 .unit))] false (.pair (.int .i64) (.pair .bool .unit))
theorem z1J:z0A.Ok Tryz.prog:=z08 envC (z02 z6L z07) Tryz.func184 (by decide +kernel) (by kernel_rfl)
def Tryz.insR186:Go.Shelf.Ren:=⟨fun | 22=>186 | 29=>206 | 30=>207 | n=>n,fun | 0=>0 | 3=>3 | 4=>4 | 9=>57 | 24=>31 | n=>n,fun n=>n⟩
noncomputable def Tryz.insI186:TypeInfo:=(Tryz.prog.info? 57).getD default
noncomputable def Tryz.insZ186:Value:=Tryz.insI186.zero.getD default
theorem Tryz.insL186:InsL Tryz.prog Tryz.insR186 Tryz.insI186 Tryz.insZ186:={
 mixed:=by kernel_rfl
 f22:=⟨Tryz.f186.name,by kernel_rfl,Tryz.func186.trans (congrArg some (by kernel_rfl))⟩
 f29:=fun args w=>run_callFunc_extern Tryz.func206 (by kernel_rfl) (by kernel_rfl) (by kernel_rfl) (by kernel_rfl) args w
 t0:=Tryz.underlying0
 a0:=Tryz.isAgg0
 z0:=Tryz.sizeOf0
 v0:=Tryz.zeroValue0
 t3:=Tryz.underlying3
 a3:=Tryz.isAgg3
 z3:=Tryz.sizeOf3
 v3:=Tryz.zeroValue3
 t4:=Tryz.underlying4
 a4:=Tryz.isAgg4
 z4:=Tryz.sizeOf4
 v4:=Tryz.zeroValue4
 z9:=Tryz.sizeOf57
 t24:=Tryz.underlying31
 a24:=Tryz.isAgg31
 z24:=Tryz.sizeOf31
 v24:=Tryz.zeroValue31
 i9:=by kernel_rfl
 iz:=by kernel_rfl
 is:=of_decide_eq_true (by kernel_rfl)
 ic:=by kernel_rfl }
noncomputable abbrev z1Y:Ent:=insE 186 tyR 48
theorem z4o:z1Y.Ok Tryz.prog:=zPi Tryz.insL186 (by kernel_rfl) Tryz.func186 (by decide +kernel) rfl (by kernel_rfl) (by kernel_rfl) rfl rfl rfl
def zOS:List (Nat×Hint):=[(0,.frz [18,4])]
noncomputable def z6O:Ent:=mkE tysC 161 [z0A,z1Y] zOS Tryz.f161 [(.own,tyRt),(.vw,tyR)] true tyRt
theorem zMr:z6O.Ok Tryz.prog:=z08 envC (z02 z1J (z02 z4o z07)) Tryz.func161 (by decide +kernel) (by kernel_rfl)
def zHN:List (Nat×Hint):=[(58,.loop ⟨[11,12],[(5,0,tyRt),(13,0,(.int .i64))],[]⟩ [(2,⟨[],[(5,0,tyRt)],[]⟩)]),(467,.join [(0,⟨[11,12,13],[(5,0,tyRt)],[]⟩)]),(7474,.join [(0,⟨[5,7,11,12,13],[(24,0,.bool)],[]⟩)]),(0,.frz [4])]
noncomputable def z5D:Ent:=mkE tysC 117 [z0M,z0C,z6O] zHN Tryz.f117 [(.vw,tyRf),(.vw,(.lst false (.pair (.int .i64) (.pair tyR .unit))))] true tyRt
theorem zGF:z5D.Ok Tryz.prog:=z08 envC (z02 z1b (z02 z2S (z02 zMr z07))) Tryz.func117 (by decide +kernel) (by kernel_rfl)
def zHO:List (Nat×Hint):=[(58,.loop ⟨[1,10],[(5,0,tyRt),(11,0,(.int .i64))],[]⟩ [(2,⟨[],[(5,0,tyRt)],[]⟩)]),(467,.join [(0,⟨[1,10,11],[(5,0,tyRt)],[]⟩)]),(0,.frz [4])]
noncomputable def z5E:Ent:=mkE tysC 118 [z0M,z2Z] zHO Tryz.f118 [(.vw,tyRf),(.vw,(.int .i64))] true tyRt
theorem zGG:z5E.Ok Tryz.prog:=z08 envC (z02 z1b (z02 z7l z07)) Tryz.func118 (by decide +kernel) (by kernel_rfl)
def zKv:List (Nat×Hint):=[(124,.join [(0,⟨[4,6],[(25,0,.bool)],[]⟩)])]
noncomputable def z5f:Ent:=mkE tysC 74 [z1w,z0Q,z5D,z4J,z5E] zKv Tryz.f74 [(.vw,tyZf),(.vw,(.lst false (.pair (.int .i64) (.pair tyR .unit))))] false (.pair tyZt (.pair (.int .i64) .unit))
theorem zJW:z5f.Ok Tryz.prog:=z08 envC (z02 z7j (z02 z2R (z02 zGF (z02 zAV (z02 zGG z07))))) Tryz.func74 (by decide +kernel) (by kernel_rfl)
def zAq:List (Nat×Hint):=[(127,.join [(0,⟨[3,4,5,8,11],[(7,2,(.pair tyZt (.pair (.lst true tyD) (.pair (.int .i64) .unit))))],[]⟩)]),(31,.join [(0,⟨[3,4,5,8],[(7,2,(.pair tyZt (.pair (.lst true tyD) (.pair (.int .i64) .unit))))],[]⟩),(1,⟨[],[(4,2,(.pair tyZt (.pair (.lst true tyD) (.pair (.int .i64) .unit)))),(5,2,tyD),(6,0,.bool)],[]⟩)]),(499,.join [(0,⟨[3,4,5,7,8,9],[(49,0,.bool)],[]⟩)]),(3995,.join [(0,⟨[2,3,4,5,7,8,9],[(49,0,.bool)],[]⟩)]),(998,.join [(0,⟨[2,3,4,5,7,8,9],[(49,0,.bool)],[]⟩)]),(124,.join [(0,⟨[2,3,4,5,7,8,9],[(30,0,.bool)],[]⟩)]),(0,.frz [82])]
noncomputable def z1G:Ent:=mkE tysC 36 [z1n,z47,z1u,z1H,z5f] zAq Tryz.f36 [(.vw,(.pair tyZf (.pair (.lst false tyD) (.pair (.int .i64) .unit)))),(.vw,(.pair (.int .i64) (.pair (.int .i64) (.pair (.lst false (.pair (.int .i64) (.pair tyR .unit))) .unit))))] false (.pair (.pair tyZt (.pair (.lst true tyD) (.pair (.int .i64) .unit))) (.pair tyD (.pair .bool .unit)))
theorem z6z:z1G.Ok Tryz.prog:=z08 envC (z02 z6s (z02 zBw (z02 z6y (z02 z5O (z02 zJW z07))))) Tryz.func36 (by decide +kernel) (by kernel_rfl)
def zE8:List (Nat×Hint):=[]
noncomputable def z32:Ent:=mkE tysC 11 [z0z,z1G] zE8 Tryz.f11 [(.vw,(.pair tyZf (.pair (.lst false tyD) (.pair (.int .i64) .unit)))),(.vw,(.pair (.int .i64) (.pair (.int .i64) (.pair (.lst false (.pair (.int .i64) (.pair tyR .unit))) .unit))))] false (.pair (.pair tyZt (.pair (.lst true tyD) (.pair (.int .i64) .unit))) (.pair tyD (.pair .bool .unit)))
theorem zCx:z32.Ok Tryz.prog:=z08 envC (z02 z5b (z02 z6z z07)) Tryz.func11 (by decide +kernel) (by kernel_rfl)
def zFx:List (Nat×Hint):=[]
noncomputable def z4t:Ent:=mkE tysC 46 [z0i] zFx Tryz.f46 [(.vw,(.int .i64))] true .bool
theorem zEd:z4t.Ok Tryz.prog:=z08 envC (z02 z3m z07) Tryz.func46 (by decide +kernel) (by kernel_rfl)
def zBj:List (Nat×Hint):=[(7,.join [(0,⟨[],[(2,0,.bool)],[]⟩)]),(26,.loop ⟨[1,6,7],[(8,0,(.int .i64))],[]⟩ [(1,⟨[2],[],[]⟩),(2,⟨[1],[],[]⟩)]),(1689,.join [(0,⟨[1,6,7,8],[(46,0,.bool)],[]⟩)])]
noncomputable def z27:Ent:=mkE tysC 15 [z2i,z0i,z4t,z3Q] zBj Tryz.f15 [(.vw,(.pair tyZf (.pair (.lst false tyD) (.pair (.int .i64) .unit))))] true .bool
theorem z7O:z27.Ok Tryz.prog:=z08 envC (z02 z81 (z02 z3m (z02 zEd (z02 z8x z07)))) Tryz.func15 (by decide +kernel) (by kernel_rfl)
def zEL:List (Nat×Hint):=[]
noncomputable def z4b:Ent:=mkE tysC 12 [z27,z3j,z2h] zEL Tryz.f12 [(.vw,(.pair tyZf (.pair (.lst false tyD) (.pair (.int .i64) .unit)))),(.vw,(.pair (.int .i64) (.pair (.int .i64) (.pair (.lst false (.pair (.int .i64) (.pair tyR .unit))) .unit))))] false (.pair (.pair tyZt (.pair (.lst true tyD) (.pair (.int .i64) .unit))) (.pair tyD (.pair .bool .unit)))
theorem zD8:z4b.Ok Tryz.prog:=z08 envC (z02 z7O (z02 zAW (z02 z9U z07))) Tryz.func12 (by decide +kernel) (by kernel_rfl)
def zBi:List (Nat×Hint):=[(58,.loop ⟨[0,1,12],[(13,0,(.int .i64))],[]⟩ [(1,⟨[4],[],[]⟩),(2,⟨[],[],[]⟩)])]
noncomputable def z3i:Ent:=mkE tysC 77 [] zBi Tryz.f77 [(.vw,tyRf),(.vw,tyRf)] true .bool
theorem zB7:z3i.Ok Tryz.prog:=z08 envC z07 Tryz.func77 (by decide +kernel) (by kernel_rfl)
def zEH:List (Nat×Hint):=[(3,.join [(0,⟨[],[(4,0,.bool)],[]⟩)])]
noncomputable def z4Z:Ent:=mkE tysC 39 [z3i] zEH Tryz.f39 [(.vw,tyZf),(.vw,tyZf)] true .bool
theorem zD5:z4Z.Ok Tryz.prog:=z08 envC (z02 zB7 z07) Tryz.func39 (by decide +kernel) (by kernel_rfl)
def zFp:List (Nat×Hint):=[(58,.loop ⟨[0,1,12],[(13,0,(.int .i64))],[]⟩ [(1,⟨[4],[],[]⟩),(2,⟨[],[],[]⟩)])]
noncomputable def z3P:Ent:=mkE tysC 20 [] zFp Tryz.f20 [(.vw,(.lst false tyD)),(.vw,(.lst false tyD))] true .bool
theorem z8w:z3P.Ok Tryz.prog:=z08 envC z07 Tryz.func20 (by decide +kernel) (by kernel_rfl)
def zAt:List (Nat×Hint):=[(3,.join [(0,⟨[],[(4,0,.bool)],[]⟩)])]
noncomputable def z1X:Ent:=mkE tysC 13 [z4Z,z3P] zAt Tryz.f13 [(.vw,(.pair tyZf (.pair (.lst false tyD) (.pair (.int .i64) .unit)))),(.vw,(.pair tyZf (.pair (.lst false tyD) (.pair (.int .i64) .unit))))] true .bool
theorem zAF:z1X.Ok Tryz.prog:=z08 envC (z02 zD5 (z02 z8w z07)) Tryz.func13 (by decide +kernel) (by kernel_rfl)
def zFb:List (Nat×Hint):=[(30,.join [(0,⟨[3,6,8],[(31,0,.bool)],[]⟩)])]
noncomputable def z3y:Ent:=mkE tysC 16 [z0z,z1u] zFb Tryz.f16 [(.vw,(.pair tyZf (.pair (.lst false tyD) (.pair (.int .i64) .unit)))),(.vw,(.int .i64)),(.vw,(.int .i64))] false (.pair tyD (.pair .bool .unit))
theorem zEQ:z3y.Ok Tryz.prog:=z08 envC (z02 z5b (z02 z6y z07)) Tryz.func16 (by decide +kernel) (by kernel_rfl)
def zAA:List (Nat×Hint):=[(15,.join [(0,⟨[],[(5,0,.str),(8,2,(.pair (.lst false (.int .u8)) (.pair (.int .i64) (.pair (.int .u64) .unit))))],[4]⟩)])]
noncomputable def z2C:Ent:=mkE tysZ 17 [z0h,z2a,z1R] zAA Tryz.f17 [(.vw,(.lst false (.int .u8)))] false (.pair .str (.pair (.lst true (.pair (.int .i64) (.pair (.int .i64) (.pair (.lst false (.pair (.int .i64) (.pair tyR .unit))) .unit)))) .unit))
theorem z9S:z2C.Ok Tryz.prog:=z08 envZ (z02 z54 (z02 z7m (z02 z6A z07))) Tryz.func17 (by decide +kernel) (by kernel_rfl)
def zHL:List (Nat×Hint):=[]
noncomputable def z5C:Ent:=mkE tysC 88 [z3N] zHL Tryz.f88 [(.vw,.str)] false (.pair tyZt (.pair .bool .unit))
theorem zGD:z5C.Ok Tryz.prog:=z08 envC (z02 z8u z07) Tryz.func88 (by decide +kernel) (by kernel_rfl)
def zCZ:List (Nat×Hint):=[]
noncomputable def z3z:Ent:=mkE tysC 52 [z5C] zCZ Tryz.f52 [(.vw,.str)] false (.pair (.pair tyZt (.pair (.lst true tyD) (.pair (.int .i64) .unit))) (.pair .bool .unit))
theorem zBt:z3z.Ok Tryz.prog:=z08 envC (z02 zGD z07) Tryz.func52 (by decide +kernel) (by kernel_rfl)
def zE6:List (Nat×Hint):=[(250,.loop ⟨[4,29,30],[(7,2,(.pair tyZt (.pair (.lst true tyD) (.pair (.int .i64) .unit)))),(9,0,(.lst true tyD)),(31,0,(.int .i64))],[]⟩ [(2,⟨[4],[(7,2,(.pair tyZt (.pair (.lst true tyD) (.pair (.int .i64) .unit)))),(9,0,(.lst true tyD))],[]⟩)]),(32051,.join [(0,⟨[4,9,13,29,30,31],[(7,2,(.pair tyZt (.pair (.lst true tyD) (.pair (.int .i64) .unit))))],[]⟩)]),(14,.join [(0,⟨[1,4,7],[(26,0,.bool)],[]⟩)]),(0,.frz [5])]
noncomputable def z4U:Ent:=mkE tysC 18 [z3z,z1G] zE6 Tryz.f18 [(.vw,.str),(.vw,(.lst false (.pair (.int .i64) (.pair (.int .i64) (.pair (.lst false (.pair (.int .i64) (.pair tyR .unit))) .unit)))))] false (.pair (.pair tyZt (.pair (.lst true tyD) (.pair (.int .i64) .unit))) (.pair (.lst true tyD) (.pair .bool .unit)))
theorem zCw:z4U.Ok Tryz.prog:=z08 envC (z02 zBt (z02 z6z z07)) Tryz.func18 (by decide +kernel) (by kernel_rfl)
def zA9:List (Nat×Hint):=[]
noncomputable def z2B:Ent:=mkE tysC 21 [z0o] zA9 Tryz.f21 [(.vw,(.lst false (.int .u8)))] true (.pair (.int .i64) (.pair (.int .i64) (.pair (.lst true (.pair (.int .i64) (.pair tyR .unit))) .unit)))
theorem z9R:z2B.Ok Tryz.prog:=z08 envC (z02 z3s z07) Tryz.func21 (by decide +kernel) (by kernel_rfl)
def zJC:List (Nat×Hint):=[(4194298,.loop ⟨[28,33,261],[(262,0,(.int .i64))],[]⟩ [(1,⟨[],[(4,0,.bool)],[]⟩),(2,⟨[],[],[]⟩)]),(524286,.join [(0,⟨[28,33],[(258,0,.bool)],[]⟩)]),(65534,.join [(0,⟨[28,29,30],[(224,0,.bool)],[]⟩)]),(4094,.join [(0,⟨[1],[(204,0,.bool)],[]⟩)]),(127,.join [(0,⟨[1],[],[]⟩),(1,⟨[],[(4,0,.bool)],[]⟩)]),(16303,.join [(0,⟨[1],[(170,0,.bool)],[]⟩)]),(8150,.join [(0,⟨[1,5,6,7,8],[(140,0,.bool)],[]⟩)]),(126,.join [(0,⟨[1,5,6,7,8,9],[(81,0,.bool)],[]⟩)])]
noncomputable def z8Y:Ent:=mkE tysC 4 [z2D,z32,z4b,z1X,z0z,z27,z3y,z2C,z4U,z34,z3P,z2B,z30,z33,z2G] zJC Tryz.f4 [(.vw,(.lst false (.int .u8))),(.vw,(.lst false (.int .u8)))] true .bool
theorem zHj:z8Y.Ok Tryz.prog:=z08 envC (z02 z9T (z02 zCx (z02 zD8 (z02 zAF (z02 z5b (z02 z7O (z02 zEQ (z02 z9S (z02 zCw (z02 z8M (z02 z8w (z02 z9R (z02 z8H (z02 z8L (z02 z8J z07))))))))))))))) Tryz.func4 (by decide +kernel) (by kernel_rfl)
end Go.Proofs.YtilejnnnkfjmmaaGreatDoor
