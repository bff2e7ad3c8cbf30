/- The functions that the law reaches, each as a program of expressions. -/
import Derived.Test.YtcnjllnhfoiojaaGreatDoorLb1
import Derived.Test.YtcnjllnhfoiojaaGreatDoorProg
import Derived.KernelRfl
import Derived.Test.YtcnjllnhfoiojaaGreatDoorLays
set_option linter.unusedSectionVars false
set_option linter.unusedVariables false
set_option linter.unusedSimpArgs false
namespace Go.Proofs.YtcnjllnhfoiojaaGreatDoor
open Go Go.Own
set_option maxRecDepth 100000
instance glbI : Glb := Glb.at [(1, zTt .i64), (6, zQx), (7, zQx), (0, zTs (Lib.pow10Tab.map fun z => Value.int .u64 z).toArray)]
theorem zGN:∀h V,Glb.ok h V->∃m arr ty fz,h[Tryz.l146_ren.g 1]? = some (.cells arr ty fz)/\arr[0]? = some (.int .i64 m):=
 fun _ _ h=>zSJ (h (1,zTt .i64) (by simp)).2
theorem zVd:∀h V,Glb.ok h V->∃ev arr ty fz,h[Tryz.l172_ren.g 15]? = some (.cells arr ty fz)/\arr[0]? = some ev/\(ev=.nilIface\/∃te pe,ev=.iface te pe):=
 fun _ _ h=>zNA (h (6,zQx) (by simp)).2
theorem zVc:∀h V,Glb.ok h V->∃ev arr ty fz,h[Tryz.l172_ren.g 16]? = some (.cells arr ty fz)/\arr[0]? = some ev/\(ev=.nilIface\/∃te pe,ev=.iface te pe):=
 fun _ _ h=>zNA (h (7,zQx) (by simp)).2
theorem zVb:∀h V,Glb.ok h V->∃ty fz,h[0]? = some (.cells (Lib.pow10Tab.map fun z=>Value.int .u64 z).toArray ty fz):=
 fun _ _ h=>zSI (h (0,zTs (Lib.pow10Tab.map fun z=>Value.int .u64 z).toArray) (by simp)).2
abbrev tyR:T:=.pair .str (.pair (.int .i64) (.pair (.int .i64) (.pair .str .unit)))
abbrev tyD:T:=.pair (.int .i64) (.pair (.int .i64) (.pair (.int .i64) (.pair (.int .i64) .unit)))
abbrev tyRf:T:=.lst false tyR
abbrev tyRt:T:=.lst true tyR
abbrev tyZf:T:=.pair .str (.pair (.int .i64) (.pair tyRf .unit))
abbrev tyZt:T:=.pair .str (.pair (.int .i64) (.pair tyRt .unit))
def tysC:List (TypeId×T×Nat):=[(3,(.int .i64),0),(4,.bool,0),(5,(.int .u8),0),(9,.str,0),(22,tyRt,48),(24,tyZt,0),(25,(.lst true tyD),32),(27,(.pair tyZt (.pair (.lst true tyD) (.pair (.int .i64) .unit))),0),(28,(.lst true (.pair (.int .i64) (.pair (.int .i64) (.pair tyRt (.pair tyRt .unit))))),64),(30,(.pair .str (.pair (.int .i64) (.pair (.lst true (.pair (.int .i64) (.pair (.int .i64) (.pair tyRt (.pair tyRt .unit))))) .unit))),0),(31,(.lst true (.pair tyZt (.pair tyZt .unit))),96),(32,(.lst true (.pair (.int .i64) (.pair .bool (.pair tyZt (.pair (.pair (.int .i64) (.pair (.int .i64) (.pair tyRt (.pair tyRt .unit)))) .unit))))),128),(34,(.pair (.pair tyZt (.pair (.lst true tyD) (.pair (.int .i64) .unit))) (.pair (.pair .str (.pair (.int .i64) (.pair (.lst true (.pair (.int .i64) (.pair (.int .i64) (.pair tyRt (.pair tyRt .unit))))) .unit))) (.pair (.lst true (.pair tyZt (.pair tyZt .unit))) (.pair (.lst true (.pair (.int .i64) (.pair .bool (.pair tyZt (.pair (.pair (.int .i64) (.pair (.int .i64) (.pair tyRt (.pair tyRt .unit)))) .unit))))) .unit)))),0),(36,tyRt,48),(38,tyZt,0),(39,(.lst true tyD),32),(41,(.pair tyZt (.pair (.lst true tyD) (.pair (.int .i64) .unit))),0),(42,(.lst true (.pair (.int .i64) (.pair (.int .i64) (.pair tyRt (.pair tyRt .unit))))),64),(44,(.pair .str (.pair (.int .i64) (.pair (.lst true (.pair (.int .i64) (.pair (.int .i64) (.pair tyRt (.pair tyRt .unit))))) .unit))),0),(45,(.lst true (.pair tyZt (.pair tyZt .unit))),96),(46,(.lst true (.pair (.int .i64) (.pair .bool (.pair tyZt (.pair (.pair (.int .i64) (.pair (.int .i64) (.pair tyRt (.pair tyRt .unit)))) .unit))))),128),(48,(.pair (.pair tyZt (.pair (.lst true tyD) (.pair (.int .i64) .unit))) (.pair (.pair .str (.pair (.int .i64) (.pair (.lst true (.pair (.int .i64) (.pair (.int .i64) (.pair tyRt (.pair tyRt .unit))))) .unit))) (.pair (.lst true (.pair tyZt (.pair tyZt .unit))) (.pair (.lst true (.pair (.int .i64) (.pair .bool (.pair tyZt (.pair (.pair (.int .i64) (.pair (.int .i64) (.pair tyRt (.pair tyRt .unit)))) .unit))))) .unit)))),0),(62,(.pair tyZt (.pair tyZt .unit)),0),(84,(.pair tyZt (.pair tyZt .unit)),0),(87,(.pair (.int .i64) (.pair (.int .i64) (.pair tyRt (.pair tyRt .unit)))),0),(89,(.pair (.int .i64) (.pair .bool (.pair tyZt (.pair (.pair (.int .i64) (.pair (.int .i64) (.pair tyRt (.pair tyRt .unit)))) .unit)))),0),(96,(.pair (.int .i64) (.pair (.int .i64) (.pair tyRt (.pair tyRt .unit)))),0),(98,(.pair (.int .i64) (.pair .bool (.pair tyZt (.pair (.pair (.int .i64) (.pair (.int .i64) (.pair tyRt (.pair tyRt .unit)))) .unit)))),0),(133,tyD,0),(139,tyR,0),(147,tyD,0),(156,(.lst true (.int .u8)),1),(158,tyR,0),(159,(.lst true .str),16),(201,(.int .u64),0),(224,(.lst true (.int .i64)),8),(236,.err,0)]
theorem envC:∀sig n fx fr,EnvOk Tryz.prog ⟨tyOf tysC,ebOf tysC,sig,n,fx,fr⟩:=by
 refine EnvOk.ofL (fun sig n fx fr t ht=>?_) (by kernel_rfl)
 simp only[tysC,List.map_cons,List.map_nil,List.mem_cons]at ht
 rcases ht with rfl | ht
 ·exact⟨Tryz.underlying3,rfl,by kernel_rfl,by kernel_rfl⟩
 rcases ht with rfl | ht
 ·exact⟨Tryz.underlying4,rfl,by kernel_rfl,by kernel_rfl⟩
 rcases ht with rfl | ht
 ·exact⟨Tryz.underlying5,rfl,by kernel_rfl,by kernel_rfl⟩
 rcases ht with rfl | ht
 ·exact⟨Tryz.underlying9,rfl,by kernel_rfl,by kernel_rfl⟩
 rcases ht with rfl | ht
 ·exact⟨⟨rfl,_,Tryz.underlying22,rfl,rfl,by kernel_rfl⟩,rfl,by kernel_rfl,by kernel_rfl⟩
 rcases ht with rfl | ht
 ·exact⟨⟨_,Tryz.underlying24,rfl,rfl,rfl,rfl,rfl,rfl,rfl,rfl,rfl,trivial⟩,rfl,by kernel_rfl,by kernel_rfl⟩
 rcases ht with rfl | ht
 ·exact⟨⟨rfl,_,Tryz.underlying25,rfl,rfl,by kernel_rfl⟩,rfl,by kernel_rfl,by kernel_rfl⟩
 rcases ht with rfl | ht
 ·exact⟨⟨_,Tryz.underlying27,rfl,rfl,rfl,rfl,rfl,rfl,rfl,rfl,rfl,trivial⟩,rfl,by kernel_rfl,by kernel_rfl⟩
 rcases ht with rfl | ht
 ·exact⟨⟨rfl,_,Tryz.underlying28,rfl,rfl,by kernel_rfl⟩,rfl,by kernel_rfl,by kernel_rfl⟩
 rcases ht with rfl | ht
 ·exact⟨⟨_,Tryz.underlying30,rfl,rfl,rfl,rfl,rfl,rfl,rfl,rfl,rfl,trivial⟩,rfl,by kernel_rfl,by kernel_rfl⟩
 rcases ht with rfl | ht
 ·exact⟨⟨rfl,_,Tryz.underlying31,rfl,rfl,by kernel_rfl⟩,rfl,by kernel_rfl,by kernel_rfl⟩
 rcases ht with rfl | ht
 ·exact⟨⟨rfl,_,Tryz.underlying32,rfl,rfl,by kernel_rfl⟩,rfl,by kernel_rfl,by kernel_rfl⟩
 rcases ht with rfl | ht
 ·exact⟨⟨_,Tryz.underlying34,rfl,rfl,rfl,rfl,rfl,rfl,rfl,rfl,rfl,rfl,rfl,rfl,trivial⟩,rfl,by kernel_rfl,by kernel_rfl⟩
 rcases ht with rfl | ht
 ·exact⟨⟨rfl,_,Tryz.underlying36,rfl,rfl,by kernel_rfl⟩,rfl,by kernel_rfl,by kernel_rfl⟩
 rcases ht with rfl | ht
 ·exact⟨⟨_,Tryz.underlying38,rfl,rfl,rfl,rfl,rfl,rfl,rfl,rfl,rfl,trivial⟩,rfl,by kernel_rfl,by kernel_rfl⟩
 rcases ht with rfl | ht
 ·exact⟨⟨rfl,_,Tryz.underlying39,rfl,rfl,by kernel_rfl⟩,rfl,by kernel_rfl,by kernel_rfl⟩
 rcases ht with rfl | ht
 ·exact⟨⟨_,Tryz.underlying41,rfl,rfl,rfl,rfl,rfl,rfl,rfl,rfl,rfl,trivial⟩,rfl,by kernel_rfl,by kernel_rfl⟩
 rcases ht with rfl | ht
 ·exact⟨⟨rfl,_,Tryz.underlying42,rfl,rfl,by kernel_rfl⟩,rfl,by kernel_rfl,by kernel_rfl⟩
 rcases ht with rfl | ht
 ·exact⟨⟨_,Tryz.underlying44,rfl,rfl,rfl,rfl,rfl,rfl,rfl,rfl,rfl,trivial⟩,rfl,by kernel_rfl,by kernel_rfl⟩
 rcases ht with rfl | ht
 ·exact⟨⟨rfl,_,Tryz.underlying45,rfl,rfl,by kernel_rfl⟩,rfl,by kernel_rfl,by kernel_rfl⟩
 rcases ht with rfl | ht
 ·exact⟨⟨rfl,_,Tryz.underlying46,rfl,rfl,by kernel_rfl⟩,rfl,by kernel_rfl,by kernel_rfl⟩
 rcases ht with rfl | ht
 ·exact⟨⟨_,Tryz.underlying48,rfl,rfl,rfl,rfl,rfl,rfl,rfl,rfl,rfl,rfl,rfl,rfl,trivial⟩,rfl,by kernel_rfl,by kernel_rfl⟩
 rcases ht with rfl | ht
 ·exact⟨⟨_,Tryz.underlying62,rfl,rfl,rfl,rfl,rfl,rfl,trivial⟩,rfl,by kernel_rfl,by kernel_rfl⟩
 rcases ht with rfl | ht
 ·exact⟨⟨_,Tryz.underlying84,rfl,rfl,rfl,rfl,rfl,rfl,trivial⟩,rfl,by kernel_rfl,by kernel_rfl⟩
 rcases ht with rfl | ht
 ·exact⟨⟨_,Tryz.underlying87,rfl,rfl,rfl,rfl,rfl,rfl,rfl,rfl,rfl,rfl,rfl,rfl,trivial⟩,rfl,by kernel_rfl,by kernel_rfl⟩
 rcases ht with rfl | ht
 ·exact⟨⟨_,Tryz.underlying89,rfl,rfl,rfl,rfl,rfl,rfl,rfl,rfl,rfl,rfl,rfl,rfl,trivial⟩,rfl,by kernel_rfl,by kernel_rfl⟩
 rcases ht with rfl | ht
 ·exact⟨⟨_,Tryz.underlying96,rfl,rfl,rfl,rfl,rfl,rfl,rfl,rfl,rfl,rfl,rfl,rfl,trivial⟩,rfl,by kernel_rfl,by kernel_rfl⟩
 rcases ht with rfl | ht
 ·exact⟨⟨_,Tryz.underlying98,rfl,rfl,rfl,rfl,rfl,rfl,rfl,rfl,rfl,rfl,rfl,rfl,trivial⟩,rfl,by kernel_rfl,by kernel_rfl⟩
 rcases ht with rfl | ht
 ·exact⟨⟨_,Tryz.underlying133,rfl,rfl,rfl,rfl,rfl,rfl,rfl,rfl,rfl,rfl,rfl,rfl,trivial⟩,rfl,by kernel_rfl,by kernel_rfl⟩
 rcases ht with rfl | ht
 ·exact⟨⟨_,Tryz.underlying139,rfl,rfl,rfl,rfl,rfl,rfl,rfl,rfl,rfl,rfl,rfl,rfl,trivial⟩,rfl,by kernel_rfl,by kernel_rfl⟩
 rcases ht with rfl | ht
 ·exact⟨⟨_,Tryz.underlying147,rfl,rfl,rfl,rfl,rfl,rfl,rfl,rfl,rfl,rfl,rfl,rfl,trivial⟩,rfl,by kernel_rfl,by kernel_rfl⟩
 rcases ht with rfl | ht
 ·exact⟨⟨rfl,_,Tryz.underlying156,rfl,rfl,by kernel_rfl⟩,rfl,by kernel_rfl,by kernel_rfl⟩
 rcases ht with rfl | ht
 ·exact⟨⟨_,Tryz.underlying158,rfl,rfl,rfl,rfl,rfl,rfl,rfl,rfl,rfl,rfl,rfl,rfl,trivial⟩,rfl,by kernel_rfl,by kernel_rfl⟩
 rcases ht with rfl | ht
 ·exact⟨⟨rfl,_,Tryz.underlying159,rfl,rfl,by kernel_rfl⟩,rfl,by kernel_rfl,by kernel_rfl⟩
 rcases ht with rfl | ht
 ·exact⟨Tryz.underlying201,rfl,by kernel_rfl,by kernel_rfl⟩
 rcases ht with rfl | ht
 ·exact⟨⟨rfl,_,Tryz.underlying224,rfl,rfl,by kernel_rfl⟩,rfl,by kernel_rfl,by kernel_rfl⟩
 rcases ht with rfl | ht
 ·exact⟨⟨_,Tryz.underlying236⟩,rfl,by kernel_rfl,by kernel_rfl⟩
 cases ht
def zGj:List (Nat×Hint):=[]
noncomputable def z5F:Ent:=mkE tysC 123 [] zGj Tryz.f123 [(.vw,tyR),(.vw,(.int .i64))] true (.int .i64)
theorem zF1:z5F.Ok Tryz.prog:=z08 envC z07 Tryz.func123 (by decide +kernel) (by kernel_rfl)
def zEZ:List (Nat×Hint):=[(122,.loop ⟨[0],[(1,0,(.int .i64)),(5,0,(.int .i64))],[]⟩ [(1,⟨[],[(4,0,(.int .i64))],[]⟩),(2,⟨[],[(1,0,(.int .i64))],[]⟩)])]
noncomputable def z1X:Ent:=mkE tysC 91 [z5F] zEZ Tryz.f91 [(.vw,tyRf),(.vw,(.int .i64))] true (.int .i64)
theorem z8P:z1X.Ok Tryz.prog:=z08 envC (z02 zF1 z07) Tryz.func91 (by decide +kernel) (by kernel_rfl)
def zKs:List (Nat×Hint):=[]
noncomputable def z1g:Ent:=mkE tysC 38 [z1X] zKs Tryz.f38 [(.vw,tyZf),(.vw,(.int .i64))] true (.int .i64)
theorem z84:z1g.Ok Tryz.prog:=z08 envC (z02 z8P z07) Tryz.func38 (by decide +kernel) (by kernel_rfl)
def zIp:List (Nat×Hint):=[]
noncomputable def z5g:Ent:=mkE tysC 39 [] zIp Tryz.f39 [(.vw,(.lst false tyD)),(.vw,(.int .i64))] true (.int .i64)
theorem zHL:z5g.Ok Tryz.prog:=z08 envC z07 Tryz.func39 (by decide +kernel) (by kernel_rfl)
def zEW:List (Nat×Hint):=[]
noncomputable def z4h:Ent:=mkE tysC 11 [z1g,z5g] zEW Tryz.f11 [(.vw,(.pair tyZf (.pair (.lst false tyD) (.pair (.int .i64) .unit)))),(.vw,(.int .i64))] true (.int .i64)
theorem zDN:z4h.Ok Tryz.prog:=z08 envC (z02 z84 (z02 zHL z07)) Tryz.func11 (by decide +kernel) (by kernel_rfl)
def zKq:List (Nat×Hint):=[]
noncomputable def z30:Ent:=mkE tysC 92 [z1X] zKq Tryz.f92 [(.vw,(.pair (.int .i64) (.pair (.int .i64) (.pair tyRf (.pair tyRf .unit))))),(.vw,(.int .i64))] true (.int .i64)
theorem zAG:z30.Ok Tryz.prog:=z08 envC (z02 z8P z07) Tryz.func92 (by decide +kernel) (by kernel_rfl)
def zIo:List (Nat×Hint):=[(122,.loop ⟨[0],[(1,0,(.int .i64)),(5,0,(.int .i64))],[]⟩ [(1,⟨[],[(4,0,(.int .i64))],[]⟩),(2,⟨[],[(1,0,(.int .i64))],[]⟩)])]
noncomputable def z5f:Ent:=mkE tysC 40 [z30] zIo Tryz.f40 [(.vw,(.lst false (.pair (.int .i64) (.pair (.int .i64) (.pair tyRf (.pair tyRf .unit)))))),(.vw,(.int .i64))] true (.int .i64)
theorem zHK:z5f.Ok Tryz.prog:=z08 envC (z02 zAG z07) Tryz.func40 (by decide +kernel) (by kernel_rfl)
def zEX:List (Nat×Hint):=[]
noncomputable def z4i:Ent:=mkE tysC 12 [z5f] zEX Tryz.f12 [(.vw,(.pair .str (.pair (.int .i64) (.pair (.lst false (.pair (.int .i64) (.pair (.int .i64) (.pair tyRf (.pair tyRf .unit))))) .unit)))),(.vw,(.int .i64))] true (.int .i64)
theorem zDO:z4i.Ok Tryz.prog:=z08 envC (z02 zHK z07) Tryz.func12 (by decide +kernel) (by kernel_rfl)
def zKr:List (Nat×Hint):=[]
noncomputable def z5O:Ent:=mkE tysC 41 [z1g] zKr Tryz.f41 [(.vw,(.pair tyZf (.pair tyZf .unit))),(.vw,(.int .i64))] true (.int .i64)
theorem zJC:z5O.Ok Tryz.prog:=z08 envC (z02 z84 z07) Tryz.func41 (by decide +kernel) (by kernel_rfl)
def zIq:List (Nat×Hint):=[(122,.loop ⟨[0],[(1,0,(.int .i64)),(5,0,(.int .i64))],[]⟩ [(1,⟨[],[(4,0,(.int .i64))],[]⟩),(2,⟨[],[(1,0,(.int .i64))],[]⟩)])]
noncomputable def z5h:Ent:=mkE tysC 13 [z5O] zIq Tryz.f13 [(.vw,(.lst false (.pair tyZf (.pair tyZf .unit)))),(.vw,(.int .i64))] true (.int .i64)
theorem zHM:z5h.Ok Tryz.prog:=z08 envC (z02 zJC z07) Tryz.func13 (by decide +kernel) (by kernel_rfl)
def zGi:List (Nat×Hint):=[]
noncomputable def z4B:Ent:=mkE tysC 42 [z1g,z30] zGi Tryz.f42 [(.vw,(.pair (.int .i64) (.pair .bool (.pair tyZf (.pair (.pair (.int .i64) (.pair (.int .i64) (.pair tyRf (.pair tyRf .unit)))) .unit))))),(.vw,(.int .i64))] true (.int .i64)
theorem zF0:z4B.Ok Tryz.prog:=z08 envC (z02 z84 (z02 zAG z07)) Tryz.func42 (by decide +kernel) (by kernel_rfl)
def zEY:List (Nat×Hint):=[(122,.loop ⟨[0],[(1,0,(.int .i64)),(5,0,(.int .i64))],[]⟩ [(1,⟨[],[(4,0,(.int .i64))],[]⟩),(2,⟨[],[(1,0,(.int .i64))],[]⟩)])]
noncomputable def z4j:Ent:=mkE tysC 14 [z4B] zEY Tryz.f14 [(.vw,(.lst false (.pair (.int .i64) (.pair .bool (.pair tyZf (.pair (.pair (.int .i64) (.pair (.int .i64) (.pair tyRf (.pair tyRf .unit)))) .unit)))))),(.vw,(.int .i64))] true (.int .i64)
theorem zDP:z4j.Ok Tryz.prog:=z08 envC (z02 zF0 z07) Tryz.func14 (by decide +kernel) (by kernel_rfl)
def zIr:List (Nat×Hint):=[]
noncomputable def z5i:Ent:=mkE tysC 4 [z4h,z4i,z5h,z4j] zIr Tryz.f4 [(.vw,(.pair (.pair tyZf (.pair (.lst false tyD) (.pair (.int .i64) .unit))) (.pair (.pair .str (.pair (.int .i64) (.pair (.lst false (.pair (.int .i64) (.pair (.int .i64) (.pair tyRf (.pair tyRf .unit))))) .unit))) (.pair (.lst false (.pair tyZf (.pair tyZf .unit))) (.pair (.lst false (.pair (.int .i64) (.pair .bool (.pair tyZf (.pair (.pair (.int .i64) (.pair (.int .i64) (.pair tyRf (.pair tyRf .unit)))) .unit))))) .unit))))),(.vw,(.int .i64))] true (.int .i64)
theorem zHN:z5i.Ok Tryz.prog:=z08 envC (z02 zDN (z02 zDO (z02 zHM (z02 zDP z07)))) Tryz.func4 (by decide +kernel) (by kernel_rfl)
def zGl:List (Nat×Hint):=[]
noncomputable def z5G:Ent:=mkE tysC 130 [] zGl Tryz.f130 [(.vw,tyR)] true tyR
theorem zF3:z5G.Ok Tryz.prog:=z08 envC z07 Tryz.func130 (by decide +kernel) (by kernel_rfl)
def zEd:List (Nat×Hint):=[(58,.loop ⟨[0],[(3,0,tyRt),(4,0,(.int .i64))],[]⟩ [(2,⟨[],[(3,0,tyRt)],[]⟩)]),(0,.frz [2])]
noncomputable def z1u:Ent:=mkE tysC 104 [z5G] zEd Tryz.f104 [(.vw,tyRf)] true tyRt
theorem z8Q:z1u.Ok Tryz.prog:=z08 envC (z02 zF3 z07) Tryz.func104 (by decide +kernel) (by kernel_rfl)
def zKw:List (Nat×Hint):=[]
noncomputable def z2V:Ent:=mkE tysC 57 [z1u] zKw Tryz.f57 [(.vw,tyZf)] true tyZt
theorem z86:z2V.Ok Tryz.prog:=z08 envC (z02 z8Q z07) Tryz.func57 (by decide +kernel) (by kernel_rfl)
def zKu:List (Nat×Hint):=[]
noncomputable def z6H:Ent:=mkE tysC 105 [] zKu Tryz.f105 [(.vw,tyD)] true tyD
theorem zJD:z6H.Ok Tryz.prog:=z08 envC z07 Tryz.func105 (by decide +kernel) (by kernel_rfl)
def zIt:List (Nat×Hint):=[(58,.loop ⟨[0],[(3,0,(.lst true tyD)),(4,0,(.int .i64))],[]⟩ [(2,⟨[],[(3,0,(.lst true tyD))],[]⟩)]),(0,.frz [2])]
noncomputable def z5k:Ent:=mkE tysC 58 [z6H] zIt Tryz.f58 [(.vw,(.lst false tyD))] true (.lst true tyD)
theorem zHP:z5k.Ok Tryz.prog:=z08 envC (z02 zJD z07) Tryz.func58 (by decide +kernel) (by kernel_rfl)
def zEa:List (Nat×Hint):=[]
noncomputable def z4k:Ent:=mkE tysC 19 [z2V,z5k] zEa Tryz.f19 [(.vw,(.pair tyZf (.pair (.lst false tyD) (.pair (.int .i64) .unit))))] true (.pair tyZt (.pair (.lst true tyD) (.pair (.int .i64) .unit)))
theorem zDQ:z4k.Ok Tryz.prog:=z08 envC (z02 z86 (z02 zHP z07)) Tryz.func19 (by decide +kernel) (by kernel_rfl)
def zKt:List (Nat×Hint):=[]
noncomputable def z3h:Ent:=mkE tysC 106 [z1u] zKt Tryz.f106 [(.vw,(.pair (.int .i64) (.pair (.int .i64) (.pair tyRf (.pair tyRf .unit)))))] true (.pair (.int .i64) (.pair (.int .i64) (.pair tyRt (.pair tyRt .unit))))
theorem zAH:z3h.Ok Tryz.prog:=z08 envC (z02 z8Q z07) Tryz.func106 (by decide +kernel) (by kernel_rfl)
def zIs:List (Nat×Hint):=[(58,.loop ⟨[0],[(3,0,(.lst true (.pair (.int .i64) (.pair (.int .i64) (.pair tyRt (.pair tyRt .unit)))))),(4,0,(.int .i64))],[]⟩ [(2,⟨[],[(3,0,(.lst true (.pair (.int .i64) (.pair (.int .i64) (.pair tyRt (.pair tyRt .unit))))))],[]⟩)]),(0,.frz [2])]
noncomputable def z5j:Ent:=mkE tysC 59 [z3h] zIs Tryz.f59 [(.vw,(.lst false (.pair (.int .i64) (.pair (.int .i64) (.pair tyRf (.pair tyRf .unit))))))] true (.lst true (.pair (.int .i64) (.pair (.int .i64) (.pair tyRt (.pair tyRt .unit)))))
theorem zHO:z5j.Ok Tryz.prog:=z08 envC (z02 zAH z07) Tryz.func59 (by decide +kernel) (by kernel_rfl)
def zEb:List (Nat×Hint):=[]
noncomputable def z4l:Ent:=mkE tysC 20 [z5j] zEb Tryz.f20 [(.vw,(.pair .str (.pair (.int .i64) (.pair (.lst false (.pair (.int .i64) (.pair (.int .i64) (.pair tyRf (.pair tyRf .unit))))) .unit))))] true (.pair .str (.pair (.int .i64) (.pair (.lst true (.pair (.int .i64) (.pair (.int .i64) (.pair tyRt (.pair tyRt .unit))))) .unit)))
theorem zDR:z4l.Ok Tryz.prog:=z08 envC (z02 zHO z07) Tryz.func20 (by decide +kernel) (by kernel_rfl)
def zKv:List (Nat×Hint):=[]
noncomputable def z5P:Ent:=mkE tysC 60 [z2V] zKv Tryz.f60 [(.vw,(.pair tyZf (.pair tyZf .unit)))] true (.pair tyZt (.pair tyZt .unit))
theorem zJE:z5P.Ok Tryz.prog:=z08 envC (z02 z86 z07) Tryz.func60 (by decide +kernel) (by kernel_rfl)
def zIu:List (Nat×Hint):=[(58,.loop ⟨[0],[(3,0,(.lst true (.pair tyZt (.pair tyZt .unit)))),(4,0,(.int .i64))],[]⟩ [(2,⟨[],[(3,0,(.lst true (.pair tyZt (.pair tyZt .unit))))],[]⟩)]),(0,.frz [2])]
noncomputable def z5l:Ent:=mkE tysC 21 [z5P] zIu Tryz.f21 [(.vw,(.lst false (.pair tyZf (.pair tyZf .unit))))] true (.lst true (.pair tyZt (.pair tyZt .unit)))
theorem zHQ:z5l.Ok Tryz.prog:=z08 envC (z02 zJE z07) Tryz.func21 (by decide +kernel) (by kernel_rfl)
def zGk:List (Nat×Hint):=[]
noncomputable def z4C:Ent:=mkE tysC 61 [z2V,z3h] zGk Tryz.f61 [(.vw,(.pair (.int .i64) (.pair .bool (.pair tyZf (.pair (.pair (.int .i64) (.pair (.int .i64) (.pair tyRf (.pair tyRf .unit)))) .unit)))))] true (.pair (.int .i64) (.pair .bool (.pair tyZt (.pair (.pair (.int .i64) (.pair (.int .i64) (.pair tyRt (.pair tyRt .unit)))) .unit))))
theorem zF2:z4C.Ok Tryz.prog:=z08 envC (z02 z86 (z02 zAH z07)) Tryz.func61 (by decide +kernel) (by kernel_rfl)
def zEc:List (Nat×Hint):=[(58,.loop ⟨[0],[(3,0,(.lst true (.pair (.int .i64) (.pair .bool (.pair tyZt (.pair (.pair (.int .i64) (.pair (.int .i64) (.pair tyRt (.pair tyRt .unit)))) .unit)))))),(4,0,(.int .i64))],[]⟩ [(2,⟨[],[(3,0,(.lst true (.pair (.int .i64) (.pair .bool (.pair tyZt (.pair (.pair (.int .i64) (.pair (.int .i64) (.pair tyRt (.pair tyRt .unit)))) .unit))))))],[]⟩)]),(0,.frz [2])]
noncomputable def z4m:Ent:=mkE tysC 22 [z4C] zEc Tryz.f22 [(.vw,(.lst false (.pair (.int .i64) (.pair .bool (.pair tyZf (.pair (.pair (.int .i64) (.pair (.int .i64) (.pair tyRf (.pair tyRf .unit)))) .unit))))))] true (.lst true (.pair (.int .i64) (.pair .bool (.pair tyZt (.pair (.pair (.int .i64) (.pair (.int .i64) (.pair tyRt (.pair tyRt .unit)))) .unit)))))
theorem zDS:z4m.Ok Tryz.prog:=z08 envC (z02 zF2 z07) Tryz.func22 (by decide +kernel) (by kernel_rfl)
def zIv:List (Nat×Hint):=[]
noncomputable def z36:Ent:=mkE tysC 6 [z4k,z4l,z5l,z4m] zIv Tryz.f6 [(.vw,(.pair (.pair tyZf (.pair (.lst false tyD) (.pair (.int .i64) .unit))) (.pair (.pair .str (.pair (.int .i64) (.pair (.lst false (.pair (.int .i64) (.pair (.int .i64) (.pair tyRf (.pair tyRf .unit))))) .unit))) (.pair (.lst false (.pair tyZf (.pair tyZf .unit))) (.pair (.lst false (.pair (.int .i64) (.pair .bool (.pair tyZf (.pair (.pair (.int .i64) (.pair (.int .i64) (.pair tyRf (.pair tyRf .unit)))) .unit))))) .unit)))))] true (.pair (.pair tyZt (.pair (.lst true tyD) (.pair (.int .i64) .unit))) (.pair (.pair .str (.pair (.int .i64) (.pair (.lst true (.pair (.int .i64) (.pair (.int .i64) (.pair tyRt (.pair tyRt .unit))))) .unit))) (.pair (.lst true (.pair tyZt (.pair tyZt .unit))) (.pair (.lst true (.pair (.int .i64) (.pair .bool (.pair tyZt (.pair (.pair (.int .i64) (.pair (.int .i64) (.pair tyRt (.pair tyRt .unit)))) .unit))))) .unit))))
theorem zHR:z36.Ok Tryz.prog:=z08 envC (z02 zDQ (z02 zDR (z02 zHQ (z02 zDS z07)))) Tryz.func6 (by decide +kernel) (by kernel_rfl)
def zOx:List (Nat×Hint):=[(3,.join [(0,⟨[],[(6,0,.bool)],[]⟩)])]
noncomputable def z0f:Ent:=mkE tysC 46 [] zOx Tryz.f46 [(.vw,(.int .i64)),(.vw,(.int .i64)),(.vw,(.int .i64))] true .bool
theorem z3B:z0f.Ok Tryz.prog:=z08 envC z07 Tryz.func46 (by decide +kernel) (by kernel_rfl)
def zKz:List (Nat×Hint):=[(3,.join [(0,⟨[],[(4,0,.bool)],[]⟩)])]
noncomputable def z6K:Ent:=mkE tysC 93 [z0f] zKz Tryz.f93 [(.vw,(.int .i64)),(.vw,(.int .i64))] true .bool
theorem zJH:z6K.Ok Tryz.prog:=z08 envC (z02 z3B z07) Tryz.func93 (by decide +kernel) (by kernel_rfl)
def zGt:List (Nat×Hint):=[]
noncomputable def z5J:Ent:=mkE tysC 94 [z0f] zGt Tryz.f94 [(.vw,(.int .i64))] true .bool
theorem zF8:z5J.Ok Tryz.prog:=z08 envC (z02 z3B z07) Tryz.func94 (by decide +kernel) (by kernel_rfl)
def zJ0:List (Nat×Hint):=[(122,.loop ⟨[0,1],[(5,0,(.lst true .str)),(6,0,(.int .i64)),(7,0,(.int .i64))],[]⟩ [(2,⟨[0],[(5,0,(.lst true .str)),(6,0,(.int .i64))],[]⟩)]),(489,.join [(0,⟨[0,1,7],[(5,0,(.lst true .str)),(6,0,(.int .i64))],[]⟩)])]
noncomputable def z39:Ent:=mkE tysC 147 [] zJ0 Tryz.f147 [(.vw,.str),(.vw,(.int .u8))] true (.lst true .str)
theorem z9X:z39.Ok Tryz.prog:=z08 envC z07 Tryz.func147 (by decide +kernel) (by kernel_rfl)
def zIz:List (Nat×Hint):=[(58,.loop ⟨[0],[(3,0,(.int .i64))],[]⟩ [(1,⟨[2],[],[]⟩),(2,⟨[0],[],[]⟩)]),(1865,.join [(0,⟨[0,3],[(38,0,.bool)],[]⟩)])]
noncomputable def z3r:Ent:=mkE tysC 148 [z0f] zIz Tryz.f148 [(.vw,.str)] true .bool
theorem zHU:z3r.Ok Tryz.prog:=z08 envC (z02 z3B z07) Tryz.func148 (by decide +kernel) (by kernel_rfl)
def zGp:List (Nat×Hint):=[(31,.join [(0,⟨[],[(2,0,(.lst true .str)),(3,0,.bool)],[]⟩)]),(122,.loop ⟨[0,4,11,12],[(13,0,(.int .i64))],[]⟩ [(1,⟨[2,3],[],[]⟩),(2,⟨[0,4],[],[]⟩)])]
noncomputable def z0t:Ent:=mkE tysC 124 [z39,z3r] zGp Tryz.f124 [(.vw,.str)] false (.pair (.lst true .str) (.pair .bool .unit))
theorem z4s:z0t.Ok Tryz.prog:=z08 envC (z02 z9X (z02 zHU z07)) Tryz.func124 (by decide +kernel) (by kernel_rfl)
def zL2:List (Nat×Hint):=[(58,.loop ⟨[3,12,13],[(4,0,.bool),(14,0,(.int .i64))],[]⟩ [(2,⟨[],[(4,0,.bool)],[]⟩)]),(467,.join [(0,⟨[3,12,13,14],[(4,0,.bool)],[]⟩)])]
noncomputable def z4O:Ent:=mkE tysC 95 [z0t] zL2 Tryz.f95 [(.vw,.str)] true .bool
theorem zAI:z4O.Ok Tryz.prog:=z08 envC (z02 z4s z07) Tryz.func95 (by decide +kernel) (by kernel_rfl)
def zMy:List (Nat×Hint):=[(122,.loop ⟨[0],[(3,0,(.int .i64)),(4,0,(.int .i64))],[]⟩ [(1,⟨[],[(2,0,(.int .i64))],[]⟩),(2,⟨[],[(3,0,(.int .i64))],[]⟩)]),(3912,.join [(0,⟨[0,3,4],[(34,0,.bool)],[]⟩)]),(6,.join [(0,⟨[0],[(18,0,.bool)],[]⟩)])]
noncomputable def z38:Ent:=mkE tysC 167 [z0f] zMy Tryz.f167 [(.vw,.str)] true (.int .i64)
theorem zLH:z38.Ok Tryz.prog:=z08 envC (z02 z3B z07) Tryz.func167 (by decide +kernel) (by kernel_rfl)
def zGr:List (Nat×Hint):=[(58,.loop ⟨[],[(0,0,(.int .i64)),(5,0,(.lst true (.int .u8))),(6,0,(.int .i64))],[]⟩ [(2,⟨[],[(5,0,(.lst true (.int .u8)))],[]⟩)])]
noncomputable def z1M:Ent:=mkE tysC 168 [] zGr Tryz.f168 [(.vw,(.int .i64)),(.vw,(.int .i64))] true .str
theorem zF6:z1M.Ok Tryz.prog:=z08 envC z07 Tryz.func168 (by decide +kernel) (by kernel_rfl)
def zGs:List (Nat×Hint):=[(15,.join [(0,⟨[],[(2,0,.bool)],[]⟩)]),(58,.loop ⟨[0,3,12,13],[(4,0,.bool),(14,0,(.int .i64))],[]⟩ [(2,⟨[0],[(4,0,.bool)],[]⟩)]),(467,.join [(0,⟨[0,3,12,13,14],[(4,0,.bool)],[]⟩)])]
noncomputable def z4F:Ent:=mkE tysC 169 [z0t] zGs Tryz.f169 [(.vw,.str)] true .bool
theorem zF7:z4F.Ok Tryz.prog:=z08 envC (z02 z4s z07) Tryz.func169 (by decide +kernel) (by kernel_rfl)
def zJ1:List (Nat×Hint):=[(122,.loop ⟨[3,13,14],[(5,0,.str),(15,0,(.int .i64))],[]⟩ [(2,⟨[],[(5,0,.str)],[]⟩)])]
noncomputable def z3s:Ent:=mkE tysC 170 [z0t] zJ1 Tryz.f170 [(.vw,.str)] true .str
theorem zHV:z3s.Ok Tryz.prog:=z08 envC (z02 z4s z07) Tryz.func170 (by decide +kernel) (by kernel_rfl)
def zJ2:List (Nat×Hint):=[(221170,.loop ⟨[1],[(13,0,(.int .i64))],[]⟩ [(1,⟨[],[(4,0,.str),(5,0,.bool)],[]⟩),(5,⟨[1],[],[]⟩)]),(3538724,.join [(0,⟨[1,13],[(104,0,.bool)],[]⟩)]),(27642,.join [(0,⟨[12],[(76,0,.bool)],[]⟩)]),(107,.join [(0,⟨[1,14],[(39,0,.bool)],[]⟩)]),(3418,.loop ⟨[7,19,20],[(6,0,.str),(21,0,(.int .i64))],[]⟩ [(1,⟨[4,5],[],[]⟩),(3,⟨[7],[(6,0,.str)],[]⟩)])]
noncomputable def z1Q:Ent:=mkE tysC 149 [z39,z38,z0f,z1M,z4F,z3s] zJ2 Tryz.f149 [(.vw,(.int .i64)),(.vw,.str)] false (.pair .str (.pair .bool .unit))
theorem z9Y:z1Q.Ok Tryz.prog:=z08 envC (z02 z9X (z02 zLH (z02 z3B (z02 zF6 (z02 zF7 (z02 zHV z07)))))) Tryz.func149 (by decide +kernel) (by kernel_rfl)
def zGn:List (Nat×Hint):=[]
noncomputable def z5H:Ent:=mkE tysC 150 [z0t] zGn Tryz.f150 [(.vw,.str)] true .bool
theorem zF4:z5H.Ok Tryz.prog:=z08 envC (z02 z4s z07) Tryz.func150 (by decide +kernel) (by kernel_rfl)
def zCu:List (Nat×Hint):=[(7,.join [(0,⟨[],[(2,0,.bool)],[]⟩)])]
noncomputable def z4D:Ent:=mkE tysC 125 [z1Q,z5H,z0f] zCu Tryz.f125 [(.vw,tyR)] true .bool
theorem zBz:z4D.Ok Tryz.prog:=z08 envC (z02 z9Y (z02 zF4 (z02 z3B z07))) Tryz.func125 (by decide +kernel) (by kernel_rfl)
def zEj:List (Nat×Hint):=[(122,.loop ⟨[5,7],[(9,0,(.int .i64))],[]⟩ [(1,⟨[],[(4,0,(.int .i64))],[]⟩),(2,⟨[5,7],[],[]⟩)]),(488,.join [(0,⟨[5,7,9],[(31,0,.bool)],[]⟩)])]
noncomputable def z4q:Ent:=mkE tysC 151 [z0t] zEj Tryz.f151 [(.vw,.str),(.vw,.str)] true (.int .i64)
theorem zDZ:z4q.Ok Tryz.prog:=z08 envC (z02 z4s z07) Tryz.func151 (by decide +kernel) (by kernel_rfl)
def zL1:List (Nat×Hint):=[]
noncomputable def z4N:Ent:=mkE tysC 152 [] zL1 Tryz.f152 [(.vw,.bool)] true (.int .i64)
theorem zJJ:z4N.Ok Tryz.prog:=z08 envC z07 Tryz.func152 (by decide +kernel) (by kernel_rfl)
def zEk:List (Nat×Hint):=[]
noncomputable def z18:Ent:=mkE tysC 126 [z4q,z1Q,z4N] zEk Tryz.f126 [(.vw,tyR),(.vw,tyR)] true (.int .i64)
theorem z8R:z18.Ok Tryz.prog:=z08 envC (z02 zDZ (z02 z9Y (z02 zJJ z07))) Tryz.func126 (by decide +kernel) (by kernel_rfl)
def zL3:List (Nat×Hint):=[(26,.loop ⟨[0,5,6],[(7,0,(.int .i64))],[]⟩ [(1,⟨[2],[],[]⟩),(2,⟨[0],[],[]⟩)]),(1689,.join [(0,⟨[0,5,6,7],[(28,0,.bool)],[]⟩)])]
noncomputable def z3l:Ent:=mkE tysC 97 [z4D,z18] zL3 Tryz.f97 [(.vw,tyRf)] true .bool
theorem zAJ:z3l.Ok Tryz.prog:=z08 envC (z02 zBz (z02 z8R z07)) Tryz.func97 (by decide +kernel) (by kernel_rfl)
def zIy:List (Nat×Hint):=[(7,.join [(0,⟨[],[(4,0,.bool)],[]⟩)])]
noncomputable def z1e:Ent:=mkE tysC 153 [] zIy Tryz.f153 [(.vw,.str),(.vw,.str)] true .bool
theorem z9W:z1e.Ok Tryz.prog:=z08 envC z07 Tryz.func153 (by decide +kernel) (by kernel_rfl)
def zN1:List (Nat×Hint):=[(26,.loop ⟨[1,2,9,10],[(11,0,(.int .i64))],[]⟩ [(1,⟨[],[(6,0,.bool)],[]⟩),(2,⟨[],[],[]⟩)]),(1689,.join [(0,⟨[1,2,9,10,11],[(24,0,.bool)],[]⟩)])]
noncomputable def z3k:Ent:=mkE tysC 154 [] zN1 Tryz.f154 [(.vw,tyRf),(.vw,.str),(.vw,(.int .i64))] true .bool
theorem zC0:z3k.Ok Tryz.prog:=z08 envC z07 Tryz.func154 (by decide +kernel) (by kernel_rfl)
def zGq:List (Nat×Hint):=[(26,.loop ⟨[0],[(3,0,(.int .i64))],[]⟩ [(1,⟨[],[(2,0,.str)],[]⟩),(2,⟨[],[],[]⟩)])]
noncomputable def z4E:Ent:=mkE tysC 171 [] zGq Tryz.f171 [(.vw,.str)] true .str
theorem zF5:z4E.Ok Tryz.prog:=z08 envC z07 Tryz.func171 (by decide +kernel) (by kernel_rfl)
def zN0:List (Nat×Hint):=[(60,.loop ⟨[0,1],[(2,0,.str),(8,0,.str),(9,0,.bool)],[]⟩ [(2,⟨[],[(8,0,.str),(9,0,.bool)],[]⟩)]),(482,.join [(0,⟨[0,1,2],[(8,0,.str),(9,0,.bool)],[]⟩)]),(240,.join [(0,⟨[0,1,2,8,9],[(17,0,.bool)],[]⟩)])]
noncomputable def z61:Ent:=mkE tysC 155 [z1e,z3k,z4E] zN0 Tryz.f155 [(.vw,.str),(.vw,tyRf),(.vw,.str)] false (.pair .str (.pair .bool .unit))
theorem zLK:z61.Ok Tryz.prog:=z08 envC (z02 z9W (z02 zC0 (z02 zF5 z07))) Tryz.func155 (by decide +kernel) (by kernel_rfl)
def zL4:List (Nat×Hint):=[(2042,.loop ⟨[0,1,132,133],[(134,0,(.int .i64))],[]⟩ [(1,⟨[],[(4,0,(.int .i64))],[]⟩),(10,⟨[],[],[]⟩)]),(261427,.join [(0,⟨[0,1,132,133,134],[(162,0,.bool)],[]⟩)]),(506,.loop ⟨[0,1,97,98],[(99,0,(.int .i64))],[]⟩ [(1,⟨[],[(4,0,(.int .i64))],[]⟩),(6,⟨[0,1],[],[]⟩)]),(129638,.loop ⟨[0,1,11,97,98,99,106,107],[(108,0,(.int .i64))],[]⟩ [(1,⟨[],[(4,0,(.int .i64))],[]⟩),(8,⟨[0,1,97,98,99],[],[]⟩)]),(8296857,.join [(0,⟨[0,1,11,97,98,99,106,107,108],[(126,0,.bool)],[]⟩)]),(250,.loop ⟨[0,1,43,44],[(45,0,(.int .i64))],[]⟩ [(1,⟨[],[(4,0,(.int .i64))],[]⟩),(4,⟨[0,1],[],[]⟩)]),(16025,.join [(0,⟨[0,1,43,44,45],[(95,0,.bool)],[]⟩)]),(58,.loop ⟨[0,1,18,19],[(5,0,(.int .i64)),(20,0,(.int .i64))],[]⟩ [(1,⟨[],[(4,0,(.int .i64))],[]⟩),(2,⟨[0,1],[(5,0,(.int .i64))],[]⟩)]),(467,.join [(0,⟨[0,1,18,19,20],[(5,0,(.int .i64))],[]⟩),(1,⟨[],[(4,0,(.int .i64))],[]⟩)])]
noncomputable def z6M:Ent:=mkE tysC 127 [z1e,z3k,z61] zL4 Tryz.f127 [(.vw,.str),(.vw,tyRf)] true (.int .i64)
theorem zJK:z6M.Ok Tryz.prog:=z08 envC (z02 z9W (z02 zC0 (z02 zLK z07))) Tryz.func127 (by decide +kernel) (by kernel_rfl)
def zKx:List (Nat×Hint):=[(6,.join [(0,⟨[0,1],[(12,0,.bool)],[]⟩)])]
noncomputable def z6I:Ent:=mkE tysC 100 [z4O,z3l,z6M] zKx Tryz.f100 [(.vw,.str),(.vw,tyRf)] true (.int .i64)
theorem zJF:z6I.Ok Tryz.prog:=z08 envC (z02 zAI (z02 zAJ (z02 zJK z07))) Tryz.func100 (by decide +kernel) (by kernel_rfl)
def zE1:List (Nat×Hint):=[]
noncomputable def zOB:Ent:=⟨128,[(.vw,(.int .i64))],true,.str,fun _=>none⟩
noncomputable def zE7:PE:=(comp tysC [zOB] zE1 Tryz.f128 [(.vw,(.int .i64))] true .str).getD .bot
noncomputable def z4r:Nat->List D->Option D
 | 0=>fun _=>none
 | k+1=>zUE [⟨128,[(.vw,(.int .i64))],true,.str,z4r k⟩] zE7
noncomputable abbrev zE8 (k:Nat):Ent:=⟨128,[(.vw,(.int .i64))],true,.str,z4r k⟩
theorem zAK:∀k,(zE8 k).Ok Tryz.prog
 | 0=>⟨⟨Tryz.f128,Tryz.func128,by decide +kernel,by kernel_rfl⟩,fun _ _ _ h=>by cases h⟩
 | k+1=>Ent.ok_of (pe:=zE7) (fn:=Tryz.f128) (hs:=zE1) envC (z02 (zAK k) z07) Tryz.func128 (by decide +kernel) (by kernel_rfl) rfl
noncomputable def z7m:Ent:=zE8 40
theorem zLI:z7m.Ok Tryz.prog:=zAK 40
def zN3:List (Nat×Hint):=[]
noncomputable def z62:Ent:=mkE tysC 101 [z7m] zN3 Tryz.f101 [(.vw,tyZf)] true .str
theorem zLL:z62.Ok Tryz.prog:=z08 envC (z02 zLI z07) Tryz.func101 (by decide +kernel) (by kernel_rfl)
def zGo:List (Nat×Hint):=[(58,.loop ⟨[1,18,19],[(20,0,(.int .i64))],[]⟩ [(1,⟨[],[(2,0,.bool)],[]⟩),(2,⟨[],[],[]⟩)]),(3737,.join [(0,⟨[1,18,19,20],[(33,0,.bool)],[]⟩)]),(6,.join [(0,⟨[1],[(16,0,.bool)],[]⟩)])]
noncomputable def z11:Ent:=mkE tysC 55 [z0f,z6I,z62] zGo Tryz.f55 [(.vw,tyZf)] true .bool
theorem z5u:z11.Ok Tryz.prog:=z08 envC (z02 z3B (z02 zJF (z02 zLL z07))) Tryz.func55 (by decide +kernel) (by kernel_rfl)
def zBj:List (Nat×Hint):=[(7,.join [(0,⟨[],[(2,0,.bool)],[]⟩)]),(26,.loop ⟨[1,6,7],[(8,0,(.int .i64))],[]⟩ [(1,⟨[2],[],[]⟩),(2,⟨[1],[],[]⟩)]),(1689,.join [(0,⟨[1,6,7,8],[(46,0,.bool)],[]⟩)])]
noncomputable def z3i:Ent:=mkE tysC 43 [z6K,z0f,z5J,z11] zBj Tryz.f43 [(.vw,(.pair tyZf (.pair (.lst false tyD) (.pair (.int .i64) .unit))))] true .bool
theorem zB1:z3i.Ok Tryz.prog:=z08 envC (z02 zJH (z02 z3B (z02 zF8 (z02 z5u z07)))) Tryz.func43 (by decide +kernel) (by kernel_rfl)
def zEl:List (Nat×Hint):=[]
noncomputable def z1w:Ent:=mkE tysC 96 [z0f] zEl Tryz.f96 [(.vw,(.int .i64))] true .bool
theorem z8S:z1w.Ok Tryz.prog:=z08 envC (z02 z3B z07) Tryz.func96 (by decide +kernel) (by kernel_rfl)
def zN5:List (Nat×Hint):=[(26,.loop ⟨[3,7,8],[(9,0,(.int .i64))],[]⟩ [(1,⟨[],[(4,0,.bool)],[]⟩),(2,⟨[],[],[]⟩)])]
noncomputable def z1b:Ent:=mkE tysC 98 [] zN5 Tryz.f98 [(.vw,tyRf),(.vw,tyR)] true .bool
theorem z8n:z1b.Ok Tryz.prog:=z08 envC z07 Tryz.func98 (by decide +kernel) (by kernel_rfl)
def zGm:List (Nat×Hint):=[(58,.loop ⟨[1,35,36],[(37,0,(.int .i64))],[]⟩ [(1,⟨[],[(2,0,.bool)],[]⟩),(2,⟨[],[],[]⟩)]),(6,.join [(0,⟨[1],[(33,0,.bool)],[]⟩)])]
noncomputable def z1W:Ent:=mkE tysC 50 [z1w,z3l,z1b] zGm Tryz.f50 [(.vw,(.pair (.int .i64) (.pair (.int .i64) (.pair tyRf (.pair tyRf .unit)))))] true .bool
theorem z7F:z1W.Ok Tryz.prog:=z08 envC (z02 z8S (z02 zAJ (z02 z8n z07))) Tryz.func50 (by decide +kernel) (by kernel_rfl)
def zBk:List (Nat×Hint):=[(122,.loop ⟨[25,26],[(3,0,(.int .i64)),(27,0,(.int .i64))],[]⟩ [(1,⟨[],[(2,0,.bool)],[]⟩),(2,⟨[],[],[]⟩)]),(15666,.join [(0,⟨[5,25,26,27],[(46,0,.bool)],[]⟩)]),(6,.join [(0,⟨[1],[(21,0,.bool)],[]⟩)])]
noncomputable def z1h:Ent:=mkE tysC 44 [z4O,z1w,z1W] zBk Tryz.f44 [(.vw,(.pair .str (.pair (.int .i64) (.pair (.lst false (.pair (.int .i64) (.pair (.int .i64) (.pair tyRf (.pair tyRf .unit))))) .unit))))] true .bool
theorem z7Y:z1h.Ok Tryz.prog:=z08 envC (z02 zAI (z02 z8S (z02 z7F z07))) Tryz.func44 (by decide +kernel) (by kernel_rfl)
def zL5:List (Nat×Hint):=[]
noncomputable def z6N:Ent:=mkE tysC 45 [] zL5 Tryz.f45 [(.vw,(.pair .str (.pair (.int .i64) (.pair (.lst false (.pair (.int .i64) (.pair (.int .i64) (.pair tyRf (.pair tyRf .unit))))) .unit))))] true (.int .i64)
theorem zJL:z6N.Ok Tryz.prog:=z08 envC z07 Tryz.func45 (by decide +kernel) (by kernel_rfl)
def zIx:List (Nat×Hint):=[(3,.join [(0,⟨[],[(4,0,.bool)],[]⟩)])]
noncomputable def z3q:Ent:=mkE tysC 47 [z11] zIx Tryz.f47 [(.vw,(.pair (.pair tyZf (.pair (.lst false tyD) (.pair (.int .i64) .unit))) (.pair (.pair .str (.pair (.int .i64) (.pair (.lst false (.pair (.int .i64) (.pair (.int .i64) (.pair tyRf (.pair tyRf .unit))))) .unit))) (.pair (.lst false (.pair tyZf (.pair tyZf .unit))) (.pair (.lst false (.pair (.int .i64) (.pair .bool (.pair tyZf (.pair (.pair (.int .i64) (.pair (.int .i64) (.pair tyRf (.pair tyRf .unit)))) .unit))))) .unit))))),(.vw,tyZf)] true .bool
theorem zHT:z3q.Ok Tryz.prog:=z08 envC (z02 z5u z07) Tryz.func47 (by decide +kernel) (by kernel_rfl)
def zEh:List (Nat×Hint):=[(3,.join [(0,⟨[],[(2,0,.bool)],[]⟩)])]
noncomputable def z4o:Ent:=mkE tysC 48 [] zEh Tryz.f48 [(.vw,(.pair (.int .i64) (.pair (.int .i64) (.pair tyRf (.pair tyRf .unit)))))] true .bool
theorem zDX:z4o.Ok Tryz.prog:=z08 envC z07 Tryz.func48 (by decide +kernel) (by kernel_rfl)
def zEi:List (Nat×Hint):=[(3,.join [(0,⟨[],[(2,0,.bool)],[]⟩)])]
noncomputable def z4p:Ent:=mkE tysC 49 [] zEi Tryz.f49 [(.vw,tyZf)] true .bool
theorem zDY:z4p.Ok Tryz.prog:=z08 envC z07 Tryz.func49 (by decide +kernel) (by kernel_rfl)
def zEg:List (Nat×Hint):=[(122,.loop ⟨[1,74,75],[(76,0,(.int .i64))],[]⟩ [(1,⟨[],[(2,0,.bool)],[]⟩),(4,⟨[],[],[]⟩)]),(31335,.join [(0,⟨[1,74,75,76],[(136,0,.bool)],[]⟩)]),(31334,.join [(0,⟨[1,6,74,75,76],[(102,0,.bool)],[]⟩)]),(58,.loop ⟨[1,54,55],[(56,0,(.int .i64))],[]⟩ [(1,⟨[],[(2,0,.bool)],[]⟩),(2,⟨[1],[],[]⟩)]),(3737,.join [(0,⟨[1,54,55,56],[(71,0,.bool)],[]⟩)]),(6,.join [(0,⟨[1],[(52,0,.bool)],[]⟩)])]
noncomputable def z4n:Ent:=mkE tysC 15 [z3i,z1h,z6N,z0f,z3q,z4o,z4p,z1W] zEg Tryz.f15 [(.vw,(.pair (.pair tyZf (.pair (.lst false tyD) (.pair (.int .i64) .unit))) (.pair (.pair .str (.pair (.int .i64) (.pair (.lst false (.pair (.int .i64) (.pair (.int .i64) (.pair tyRf (.pair tyRf .unit))))) .unit))) (.pair (.lst false (.pair tyZf (.pair tyZf .unit))) (.pair (.lst false (.pair (.int .i64) (.pair .bool (.pair tyZf (.pair (.pair (.int .i64) (.pair (.int .i64) (.pair tyRf (.pair tyRf .unit)))) .unit))))) .unit)))))] true .bool
theorem zDW:z4n.Ok Tryz.prog:=z08 envC (z02 zB1 (z02 z7Y (z02 zJL (z02 z3B (z02 zHT (z02 zDX (z02 zDY (z02 z7F z07)))))))) Tryz.func15 (by decide +kernel) (by kernel_rfl)
def zN2:List (Nat×Hint):=[]
noncomputable def z1N:Ent:=mkE tysC 18 [] zN2 Tryz.f18 [(.vw,tyZf)] true tyZt
theorem z6T:z1N.Ok Tryz.prog:=z08 envC z07 Tryz.func18 (by decide +kernel) (by kernel_rfl)
def zKy:List (Nat×Hint):=[]
noncomputable def z6J:Ent:=mkE tysC 51 [z1N] zKy Tryz.f51 [(.vw,(.pair tyZf (.pair (.lst false tyD) (.pair (.int .i64) .unit))))] true (.pair tyZt (.pair (.lst true tyD) (.pair (.int .i64) .unit)))
theorem zJG:z6J.Ok Tryz.prog:=z08 envC (z02 z6T z07) Tryz.func51 (by decide +kernel) (by kernel_rfl)
def zN6:List (Nat×Hint):=[]
noncomputable def z4J:Ent:=mkE tysC 99 [] zN6 Tryz.f99 [(.vw,(.pair (.int .i64) (.pair (.int .i64) (.pair tyRf (.pair tyRf .unit)))))] true (.pair (.int .i64) (.pair (.int .i64) (.pair tyRt (.pair tyRt .unit))))
theorem zC1:z4J.Ok Tryz.prog:=z08 envC z07 Tryz.func99 (by decide +kernel) (by kernel_rfl)
def zJ3:List (Nat×Hint):=[(58,.loop ⟨[6,7],[(3,0,(.lst true (.pair (.int .i64) (.pair (.int .i64) (.pair tyRt (.pair tyRt .unit)))))),(8,0,(.int .i64))],[]⟩ [(2,⟨[],[(3,0,(.lst true (.pair (.int .i64) (.pair (.int .i64) (.pair tyRt (.pair tyRt .unit))))))],[]⟩)]),(0,.frz [2])]
noncomputable def z2W:Ent:=mkE tysC 52 [z4J] zJ3 Tryz.f52 [(.vw,(.lst false (.pair (.int .i64) (.pair (.int .i64) (.pair tyRf (.pair tyRf .unit))))))] true (.lst true (.pair (.int .i64) (.pair (.int .i64) (.pair tyRt (.pair tyRt .unit)))))
theorem z9Z:z2W.Ok Tryz.prog:=z08 envC (z02 zC1 z07) Tryz.func52 (by decide +kernel) (by kernel_rfl)
def zAg:List (Nat×Hint):=[]
noncomputable def z2J:Ent:=mkE tysC 53 [z1N,z4J] zAg Tryz.f53 [(.vw,(.pair (.int .i64) (.pair .bool (.pair tyZf (.pair (.pair (.int .i64) (.pair (.int .i64) (.pair tyRf (.pair tyRf .unit)))) .unit)))))] true (.pair (.int .i64) (.pair .bool (.pair tyZt (.pair (.pair (.int .i64) (.pair (.int .i64) (.pair tyRt (.pair tyRt .unit)))) .unit))))
theorem zAA:z2J.Ok Tryz.prog:=z08 envC (z02 z6T (z02 zC1 z07)) Tryz.func53 (by decide +kernel) (by kernel_rfl)
def zL0:List (Nat×Hint):=[(2042,.loop ⟨[1,2,40,41],[(6,0,(.lst true (.pair (.int .i64) (.pair .bool (.pair tyZt (.pair (.pair (.int .i64) (.pair (.int .i64) (.pair tyRt (.pair tyRt .unit)))) .unit)))))),(42,0,(.int .i64))],[]⟩ [(4,⟨[1,2],[(6,0,(.lst true (.pair (.int .i64) (.pair .bool (.pair tyZt (.pair (.pair (.int .i64) (.pair (.int .i64) (.pair tyRt (.pair tyRt .unit)))) .unit))))))],[]⟩)]),(250,.loop ⟨[1,2,20,21],[(3,0,(.lst true (.pair tyZt (.pair tyZt .unit)))),(22,0,(.int .i64))],[]⟩ [(2,⟨[1,2],[(3,0,(.lst true (.pair tyZt (.pair tyZt .unit))))],[]⟩)])]
noncomputable def z6L:Ent:=mkE tysC 16 [z6J,z2W,z1N,z2J] zL0 Tryz.f16 [(.vw,(.pair (.pair tyZf (.pair (.lst false tyD) (.pair (.int .i64) .unit))) (.pair (.pair .str (.pair (.int .i64) (.pair (.lst false (.pair (.int .i64) (.pair (.int .i64) (.pair tyRf (.pair tyRf .unit))))) .unit))) (.pair (.lst false (.pair tyZf (.pair tyZf .unit))) (.pair (.lst false (.pair (.int .i64) (.pair .bool (.pair tyZf (.pair (.pair (.int .i64) (.pair (.int .i64) (.pair tyRf (.pair tyRf .unit)))) .unit))))) .unit)))))] true (.pair (.pair tyZt (.pair (.lst true tyD) (.pair (.int .i64) .unit))) (.pair (.pair .str (.pair (.int .i64) (.pair (.lst true (.pair (.int .i64) (.pair (.int .i64) (.pair tyRt (.pair tyRt .unit))))) .unit))) (.pair (.lst true (.pair tyZt (.pair tyZt .unit))) (.pair (.lst true (.pair (.int .i64) (.pair .bool (.pair tyZt (.pair (.pair (.int .i64) (.pair (.int .i64) (.pair tyRt (.pair tyRt .unit)))) .unit))))) .unit))))
theorem zJI:z6L.Ok Tryz.prog:=z08 envC (z02 zJG (z02 z9Z (z02 z6T (z02 zAA z07)))) Tryz.func16 (by decide +kernel) (by kernel_rfl)
def zEf:List (Nat×Hint):=[(122,.loop ⟨[1,2,19,20],[(21,0,(.int .i64))],[]⟩ [(1,⟨[],[(4,0,(.lst true (.pair (.int .i64) (.pair (.int .i64) (.pair tyRt (.pair tyRt .unit)))))),(5,0,.bool)],[]⟩),(2,⟨[],[],[]⟩)])]
noncomputable def z3X:Ent:=mkE tysC 54 [z1h,z2W] zEf Tryz.f54 [(.vw,(.pair .str (.pair (.int .i64) (.pair (.lst false (.pair (.int .i64) (.pair (.int .i64) (.pair tyRf (.pair tyRf .unit))))) .unit)))),(.vw,(.int .i64))] false (.pair (.lst true (.pair (.int .i64) (.pair (.int .i64) (.pair tyRt (.pair tyRt .unit))))) (.pair .bool .unit))
theorem zDV:z3X.Ok Tryz.prog:=z08 envC (z02 z7Y (z02 z9Z z07)) Tryz.func54 (by decide +kernel) (by kernel_rfl)
def zL6:List (Nat×Hint):=[(58,.loop ⟨[1,8,9],[(5,0,tyRt),(10,0,(.int .i64))],[]⟩ [(2,⟨[],[(5,0,tyRt)],[]⟩)]),(467,.join [(0,⟨[1,8,9,10],[(5,0,tyRt)],[]⟩)]),(0,.frz [4])]
noncomputable def z6O:Ent:=mkE tysC 103 [z1b] zL6 Tryz.f103 [(.vw,tyRf),(.vw,tyRf)] true tyRt
theorem zJM:z6O.Ok Tryz.prog:=z08 envC (z02 z8n z07) Tryz.func103 (by decide +kernel) (by kernel_rfl)
def zMz:List (Nat×Hint):=[(30,.join [(0,⟨[0,3,5],[(33,0,.bool)],[]⟩)]),(28,.loop ⟨[0,3],[(5,0,(.int .i64))],[]⟩ [(2,⟨[0,3],[(5,0,(.int .i64))],[]⟩)]),(112,.join [(0,⟨[0,3,5],[(19,0,.bool)],[]⟩)]),(0,.frz [4])]
noncomputable def z5I:Ent:=mkE tysC 129 [z18] zMz Tryz.f129 [(.own,tyRt),(.vw,tyR)] true tyRt
theorem zLJ:z5I.Ok Tryz.prog:=z08 envC (z02 z8R z07) Tryz.func129 (by decide +kernel) (by kernel_rfl)
def zN4:List (Nat×Hint):=[(58,.loop ⟨[11,12],[(5,0,tyRt),(13,0,(.int .i64))],[]⟩ [(2,⟨[],[(5,0,tyRt)],[]⟩)]),(0,.frz [4])]
noncomputable def z6s:Ent:=mkE tysC 102 [z5I] zN4 Tryz.f102 [(.vw,tyRf),(.vw,tyRf)] true tyRt
theorem zLM:z6s.Ok Tryz.prog:=z08 envC (z02 zLJ z07) Tryz.func102 (by decide +kernel) (by kernel_rfl)
def zEe:List (Nat×Hint):=[(122,.loop ⟨[2,3,4,42,43],[(44,0,(.int .i64))],[]⟩ [(1,⟨[],[(4,2,tyZt),(5,0,.bool)],[]⟩),(4,⟨[2,3,4],[],[]⟩)]),(58,.loop ⟨[2,3,4,28,29],[(30,0,(.int .i64))],[]⟩ [(1,⟨[],[(4,2,tyZt),(5,0,.bool)],[]⟩),(2,⟨[2,3,4],[],[]⟩)]),(6,.join [(0,⟨[2,3,4],[(25,0,.bool)],[]⟩)])]
noncomputable def z1v:Ent:=mkE tysC 56 [z11,z1W,z1b,z6O,z6s] zEe Tryz.f56 [(.vw,tyZf),(.vw,(.pair (.int .i64) (.pair (.int .i64) (.pair tyRf (.pair tyRf .unit)))))] false (.pair tyZt (.pair .bool .unit))
theorem zDU:z1v.Ok Tryz.prog:=z08 envC (z02 z5u (z02 z7F (z02 z8n (z02 zJM (z02 zLM z07))))) Tryz.func56 (by decide +kernel) (by kernel_rfl)
def zIw:List (Nat×Hint):=[(250,.loop ⟨[4,7,37,38],[(2,2,tyZt),(39,0,(.int .i64))],[]⟩ [(1,⟨[],[(4,2,tyZt),(5,0,(.int .i64)),(6,0,.bool)],[]⟩),(2,⟨[4,7],[(2,2,tyZt)],[]⟩)]),(14,.join [(0,⟨[2,4,7],[(33,0,.bool)],[]⟩)])]
noncomputable def z3p:Ent:=mkE tysC 17 [z3X,z11,z1N,z1v] zIw Tryz.f17 [(.vw,tyZf),(.vw,(.pair .str (.pair (.int .i64) (.pair (.lst false (.pair (.int .i64) (.pair (.int .i64) (.pair tyRf (.pair tyRf .unit))))) .unit))))] false (.pair tyZt (.pair (.int .i64) (.pair .bool .unit)))
theorem zHS:z3p.Ok Tryz.prog:=z08 envC (z02 zDV (z02 z5u (z02 z6T (z02 zDU z07)))) Tryz.func17 (by decide +kernel) (by kernel_rfl)
def zBl:List (Nat×Hint):=[(506,.loop ⟨[2,20],[(1,2,(.pair (.pair tyZt (.pair (.lst true tyD) (.pair (.int .i64) .unit))) (.pair (.pair .str (.pair (.int .i64) (.pair (.lst true (.pair (.int .i64) (.pair (.int .i64) (.pair tyRt (.pair tyRt .unit))))) .unit))) (.pair (.lst true (.pair tyZt (.pair tyZt .unit))) (.pair (.lst true (.pair (.int .i64) (.pair .bool (.pair tyZt (.pair (.pair (.int .i64) (.pair (.int .i64) (.pair tyRt (.pair tyRt .unit)))) .unit))))) .unit))))),(5,0,(.int .i64)),(21,0,(.int .i64))],[19]⟩ [(2,⟨[2],[(1,2,(.pair (.pair tyZt (.pair (.lst true tyD) (.pair (.int .i64) .unit))) (.pair (.pair .str (.pair (.int .i64) (.pair (.lst true (.pair (.int .i64) (.pair (.int .i64) (.pair tyRt (.pair tyRt .unit))))) .unit))) (.pair (.lst true (.pair tyZt (.pair tyZt .unit))) (.pair (.lst true (.pair (.int .i64) (.pair .bool (.pair tyZt (.pair (.pair (.int .i64) (.pair (.int .i64) (.pair tyRt (.pair tyRt .unit)))) .unit))))) .unit))))),(5,0,(.int .i64))],[]⟩)]),(64819,.join [(0,⟨[1,2,5,6,19,20,21],[(8,2,tyZt),(9,0,(.int .i64))],[]⟩)])]
noncomputable def z3j:Ent:=mkE tysC 5 [z4n,z6L,z3p,z1N] zBl Tryz.f5 [(.vw,(.pair (.pair tyZf (.pair (.lst false tyD) (.pair (.int .i64) .unit))) (.pair (.pair .str (.pair (.int .i64) (.pair (.lst false (.pair (.int .i64) (.pair (.int .i64) (.pair tyRf (.pair tyRf .unit))))) .unit))) (.pair (.lst false (.pair tyZf (.pair tyZf .unit))) (.pair (.lst false (.pair (.int .i64) (.pair .bool (.pair tyZf (.pair (.pair (.int .i64) (.pair (.int .i64) (.pair tyRf (.pair tyRf .unit)))) .unit))))) .unit)))))] false (.pair (.pair (.pair tyZt (.pair (.lst true tyD) (.pair (.int .i64) .unit))) (.pair (.pair .str (.pair (.int .i64) (.pair (.lst true (.pair (.int .i64) (.pair (.int .i64) (.pair tyRt (.pair tyRt .unit))))) .unit))) (.pair (.lst true (.pair tyZt (.pair tyZt .unit))) (.pair (.lst true (.pair (.int .i64) (.pair .bool (.pair tyZt (.pair (.pair (.int .i64) (.pair (.int .i64) (.pair tyRt (.pair tyRt .unit)))) .unit))))) .unit)))) (.pair (.int .i64) (.pair .bool .unit)))
theorem zB2:z3j.Ok Tryz.prog:=z08 envC (z02 zDW (z02 zJI (z02 zHS (z02 z6T z07)))) Tryz.func5 (by decide +kernel) (by kernel_rfl)
def zKl:List (Nat×Hint):=[(3,.join [(0,⟨[],[(6,0,.bool)],[]⟩)])]
noncomputable def z0g:Ent:=mkE tysC 65 [] zKl Tryz.f65 [(.vw,(.int .i64)),(.vw,(.int .i64)),(.vw,(.int .i64))] true .bool
theorem z2X:z0g.Ok Tryz.prog:=z08 envC z07 Tryz.func65 (by decide +kernel) (by kernel_rfl)
def zEH:List (Nat×Hint):=[]
noncomputable def z1P:Ent:=mkE tysC 111 [z0g] zEH Tryz.f111 [(.vw,(.int .i64))] true .bool
theorem z6j:z1P.Ok Tryz.prog:=z08 envC (z02 z2X z07) Tryz.func111 (by decide +kernel) (by kernel_rfl)
noncomputable abbrev z2d:Ent:=zNw 160
theorem z91:z2d.Ok Tryz.prog:=zTB Tryz.l146 (by kernel_rfl) Tryz.func160 (by decide +kernel) rfl zGN
def zGZ:List (Nat×Hint):=[]
noncomputable def z1V:Ent:=mkE tysC 134 [z2d] zGZ Tryz.f134 [(.vw,.str)] true (.lst true .str)
theorem z7E:z1V.Ok Tryz.prog:=z08 envC (z02 z91 z07) Tryz.func134 (by decide +kernel) (by kernel_rfl)
noncomputable abbrev z4w:Ent:=zTI 162
theorem zHX:z4w.Ok Tryz.prog:=zUJ Tryz.l160 (by kernel_rfl) (by kernel_rfl) Tryz.func162 (by decide +kernel) rfl
def zIf:List (Nat×Hint):=[(7,.join [(0,⟨[],[(2,0,.bool)],[]⟩)])]
noncomputable def z5a:Ent:=mkE tysC 137 [z0g,z4w] zIf Tryz.f137 [(.vw,.str)] true .bool
theorem zHD:z5a.Ok Tryz.prog:=z08 envC (z02 z2X (z02 zHX z07)) Tryz.func137 (by decide +kernel) (by kernel_rfl)
def zCp:List (Nat×Hint):=[]
noncomputable def z3D:Ent:=mkE tysC 136 [z5a] zCp Tryz.f136 [(.vw,.str)] true .bool
theorem zBu:z3D.Ok Tryz.prog:=z08 envC (z02 zHD z07) Tryz.func136 (by decide +kernel) (by kernel_rfl)
def z3P:List (Nat×Hint):=[(26,.loop ⟨[0,1,7],[(8,0,(.int .i64))],[]⟩ [(1,⟨[],[(4,0,(.int .i64))],[]⟩),(2,⟨[],[],[]⟩)])]
noncomputable def z0c:Ent:=mkE tysC 161 [z3D] z3P Tryz.f161 [(.vw,(.lst false .str)),(.vw,(.fn 136 .unit))] true (.int .i64)
theorem z3N:z0c.Ok Tryz.prog:=z08 envC (z02 zBu z07) Tryz.func161 (by decide +kernel) (by kernel_rfl)
def z3F:List (Nat×Hint):=[]
noncomputable def z0Z:Ent:=mkE tysC 135 [z0c] z3F Tryz.f135 [(.vw,(.lst false .str)),(.vw,(.fn 136 .unit))] true .bool
theorem z34:z0Z.Ok Tryz.prog:=z08 envC (z02 z3N z07) Tryz.func135 (by decide +kernel) (by kernel_rfl)
def zGQ:List (Nat×Hint):=[(15,.join [(0,⟨[],[(2,0,.bool)],[]⟩)])]
noncomputable def z1K:Ent:=mkE tysC 110 [z1V,z0Z] zGQ Tryz.f110 [(.vw,.str)] true .bool
theorem z5s:z1K.Ok Tryz.prog:=z08 envC (z02 z7E (z02 z34 z07)) Tryz.func110 (by decide +kernel) (by kernel_rfl)
noncomputable abbrev z1U:Ent:=z9D 189
theorem z7Z:z1U.Ok Tryz.prog:=zMQ Tryz.l144 (by kernel_rfl) Tryz.func189 (by decide +kernel) rfl zGN
def zKj:List (Nat×Hint):=[(3,.join [(0,⟨[],[(2,0,.bool)],[]⟩)])]
noncomputable def z6E:Ent:=mkE tysC 172 [z1K,z1U] zKj Tryz.f172 [(.vw,.str)] true .bool
theorem zJ8:z6E.Ok Tryz.prog:=z08 envC (z02 z5s (z02 z7Z z07)) Tryz.func172 (by decide +kernel) (by kernel_rfl)
noncomputable abbrev z4v:Ent:=zOE 240
theorem zHW:z4v.Ok Tryz.prog:=zTT Tryz.l172 (by kernel_rfl) Tryz.func240 (by decide +kernel) rfl zVd zVc
noncomputable abbrev z3A:Ent:=zSK 159
theorem z9a:z3A.Ok Tryz.prog:=zTu Tryz.l171 (by kernel_rfl) Tryz.func159 (by decide +kernel) rfl (by kernel_rfl) zVb
def zGa:List (Nat×Hint):=[(7,.join [(0,⟨[],[(4,0,(.int .i64)),(5,0,.bool)],[]⟩)])]
noncomputable def z1f:Ent:=mkE tysC 218 [z4v,z0g,z3A] zGa Tryz.f218 [(.vw,.str),(.vw,(.int .i64))] false (.pair (.int .i64) (.pair .bool .unit))
theorem zEu:z1f.Ok Tryz.prog:=z08 envC (z02 zHW (z02 z2X (z02 z9a z07))) Tryz.func218 (by decide +kernel) (by kernel_rfl)
def zQu:List (Nat×Hint):=[(58,.loop ⟨[0],[(5,0,(.lst true (.int .u8))),(6,0,(.int .i64))],[]⟩ [(2,⟨[],[(5,0,(.lst true (.int .u8)))],[]⟩)])]
noncomputable def z3T:Ent:=mkE tysC 219 [] zQu Tryz.f219 [(.vw,(.int .i64)),(.vw,(.int .i64))] true .str
theorem zP9:z3T.Ok Tryz.prog:=z08 envC z07 Tryz.func219 (by decide +kernel) (by kernel_rfl)
def zGY:List (Nat×Hint):=[(3,.join [(0,⟨[],[(2,0,.bool)],[]⟩)])]
noncomputable def z45:Ent:=mkE tysC 220 [z1K,z1U] zGY Tryz.f220 [(.vw,.str)] true .bool
theorem zEt:z45.Ok Tryz.prog:=z08 envC (z02 z5s (z02 z7Z z07)) Tryz.func220 (by decide +kernel) (by kernel_rfl)
def zCr:List (Nat×Hint):=[(58,.loop ⟨[7,8],[(3,0,.str),(9,0,(.int .i64))],[]⟩ [(2,⟨[],[(3,0,.str)],[]⟩)])]
noncomputable def z2I:Ent:=mkE tysC 221 [z1V] zCr Tryz.f221 [(.vw,.str)] true .str
theorem zBw:z2I.Ok Tryz.prog:=z08 envC (z02 z7E z07) Tryz.func221 (by decide +kernel) (by kernel_rfl)
noncomputable abbrev z5Q:Ent:=cutE 222
theorem zJN:z5Q.Ok Tryz.prog:=zUk Tryz.l145 (by kernel_rfl) Tryz.func222 (by decide +kernel) rfl zGN
def zBT:List (Nat×Hint):=[(3,.join [(0,⟨[],[(2,0,.bool)],[]⟩)])]
noncomputable def z2r:Ent:=mkE tysC 224 [] zBT Tryz.f224 [(.vw,(.int .u8))] true .bool
theorem zAo:z2r.Ok Tryz.prog:=z08 envC z07 Tryz.func224 (by decide +kernel) (by kernel_rfl)
def z3w:List (Nat×Hint):=[(26,.loop ⟨[0,1,7],[(8,0,(.int .i64))],[]⟩ [(1,⟨[],[(4,0,(.int .i64))],[]⟩),(2,⟨[],[],[]⟩)])]
noncomputable def z0e:Ent:=mkE tysC 242 [z2r] z3w Tryz.f242 [(.vw,(.lst false (.int .u8))),(.vw,(.fn 224 .unit))] true (.int .i64)
theorem z3t:z0e.Ok Tryz.prog:=z08 envC (z02 zAo z07) Tryz.func242 (by decide +kernel) (by kernel_rfl)
def z3O:List (Nat×Hint):=[]
noncomputable def z0b:Ent:=mkE tysC 223 [z0e] z3O Tryz.f223 [(.vw,(.lst false (.int .u8))),(.vw,(.fn 224 .unit))] true .bool
theorem z3M:z0b.Ok Tryz.prog:=z08 envC (z02 z3t z07) Tryz.func223 (by decide +kernel) (by kernel_rfl)
def zEC:List (Nat×Hint):=[(55292,.join [(0,⟨[1],[(103,0,.bool)],[]⟩)]),(55286,.join [(0,⟨[15,17],[(87,0,.bool)],[]⟩)]),(107,.join [(0,⟨[1,19],[(48,0,.bool)],[]⟩)]),(3418,.loop ⟨[7,24,25],[(6,0,.str),(26,0,(.int .i64))],[]⟩ [(1,⟨[4,5],[],[]⟩),(3,⟨[],[(6,0,.str)],[]⟩)]),(875110,.join [(0,⟨[6,7,10,24,25,26],[(41,0,.bool)],[]⟩)])]
noncomputable def z17:Ent:=mkE tysC 199 [z2d,z1f,z3T,z45,z2I,z5Q,z0b] zEC Tryz.f199 [(.vw,(.int .i64)),(.vw,.str)] false (.pair .str (.pair .bool .unit))
theorem z8L:z17.Ok Tryz.prog:=z08 envC (z02 z91 (z02 zEu (z02 zP9 (z02 zEt (z02 zBw (z02 zJN (z02 z3M z07))))))) Tryz.func199 (by decide +kernel) (by kernel_rfl)
def zCq:List (Nat×Hint):=[(6,.join [(0,⟨[1],[(20,0,.bool)],[]⟩)])]
noncomputable def z41:Ent:=mkE tysC 185 [z1K,z0g,z17] zCq Tryz.f185 [(.vw,tyR)] true .bool
theorem zBv:z41.Ok Tryz.prog:=z08 envC (z02 z5s (z02 z2X (z02 z8L z07))) Tryz.func185 (by decide +kernel) (by kernel_rfl)
def z6v:List (Nat×Hint):=[(6,.loop ⟨[],[(0,0,(.lst true .str)),(2,0,(.int .i64)),(3,0,(.int .i64))],[]⟩ [(2,⟨[],[(0,0,(.lst true .str))],[]⟩)])]
noncomputable def z0w:Ent:=mkE tysC 243 [] z6v Tryz.f243 [(.io,(.lst true .str))] false .unit
theorem z6l:z0w.Ok Tryz.prog:=z08 envC z07 Tryz.func243 (by decide +kernel) (by kernel_rfl)
def zBS:List (Nat×Hint):=[]
noncomputable def z2q:Ent:=mkE tysC 259 [] zBS Tryz.f259 [(.vw,.str)] true .bool
theorem zAn:z2q.Ok Tryz.prog:=z08 envC z07 Tryz.func259 (by decide +kernel) (by kernel_rfl)
def zA6:List (Nat×Hint):=[]
noncomputable def z1S:Ent:=mkE tysC 253 [z2q] zA6 Tryz.f253 [(.vw,.str),(.vw,.str)] true (.int .i64)
theorem z9S:z1S.Ok Tryz.prog:=z08 envC (z02 zAn z07) Tryz.func253 (by decide +kernel) (by kernel_rfl)
def z6u:List (Nat×Hint):=[(26,.loop ⟨[0,1,9,10],[(11,0,(.int .i64))],[]⟩ [(1,⟨[],[(4,0,(.int .i64))],[]⟩),(2,⟨[0,1],[],[]⟩)])]
noncomputable def z19:Ent:=mkE tysC 244 [z1S] z6u Tryz.f244 [(.vw,(.lst false .str)),(.vw,(.lst false .str))] true (.int .i64)
theorem z6k:z19.Ok Tryz.prog:=z08 envC (z02 z9S z07) Tryz.func244 (by decide +kernel) (by kernel_rfl)
def zAf:List (Nat×Hint):=[]
noncomputable def z3I:Ent:=mkE tysC 225 [z1V,z0w,z19] zAf Tryz.f225 [(.vw,.str),(.vw,.str)] true (.int .i64)
theorem zA9:z3I.Ok Tryz.prog:=z08 envC (z02 z7E (z02 z6l (z02 z6k z07))) Tryz.func225 (by decide +kernel) (by kernel_rfl)
def zGO:List (Nat×Hint):=[]
noncomputable def z40:Ent:=mkE tysC 227 [] zGO Tryz.f227 [(.vw,(.int .i64))] true .bool
theorem zEm:z40.Ok Tryz.prog:=z08 envC z07 Tryz.func227 (by decide +kernel) (by kernel_rfl)
def zCn:List (Nat×Hint):=[]
noncomputable def z2H:Ent:=mkE tysC 204 [z40] zCn Tryz.f204 [(.vw,(.int .i64)),(.vw,(.int .i64))] true (.int .i64)
theorem z7p:z2H.Ok Tryz.prog:=z08 envC (z02 zEm z07) Tryz.func204 (by decide +kernel) (by kernel_rfl)
def zMx:List (Nat×Hint):=[(58,.loop ⟨[3,6,7],[(8,0,(.int .i64))],[]⟩ [(1,⟨[],[(2,0,(.int .i64))],[]⟩),(2,⟨[3],[],[]⟩)])]
noncomputable def z56:Ent:=mkE tysC 200 [] zMx Tryz.f200 [(.vw,(.lst false (.int .i64)))] true (.int .i64)
theorem zBs:z56.Ok Tryz.prog:=z08 envC z07 Tryz.func200 (by decide +kernel) (by kernel_rfl)
def zBZ:List (Nat×Hint):=[]
noncomputable def z3a:Ent:=mkE tysC 201 [z3I,z2H,z56] zBZ Tryz.f201 [(.vw,tyR),(.vw,tyR)] true (.int .i64)
theorem zAt:z3a.Ok Tryz.prog:=z08 envC (z02 zA9 (z02 z7p (z02 zBs z07))) Tryz.func201 (by decide +kernel) (by kernel_rfl)
def zEF:List (Nat×Hint):=[]
noncomputable def z3U:Ent:=mkE tysC 203 [z17] zEF Tryz.f203 [(.vw,(.int .i64)),(.vw,.str)] true .str
theorem zD9:z3U.Ok Tryz.prog:=z08 envC (z02 z8L z07) Tryz.func203 (by decide +kernel) (by kernel_rfl)
noncomputable abbrev z3E:Ent:=zFp 202
theorem zC2:z3E.Ok Tryz.prog:=zOL Tryz.l106 (by kernel_rfl) Tryz.func202 (by decide +kernel) rfl
def z9K:List (Nat×Hint):=[]
noncomputable def z10:Ent:=mkE tysC 186 [z3a,z3U,z3E,z2H,z56] z9K Tryz.f186 [(.vw,tyR),(.vw,tyR)] true (.int .i64)
theorem z6a:z10.Ok Tryz.prog:=z08 envC (z02 zAt (z02 zD9 (z02 zC2 (z02 z7p (z02 zBs z07))))) Tryz.func186 (by decide +kernel) (by kernel_rfl)
def zEE:List (Nat×Hint):=[(26,.loop ⟨[0,5,6],[(7,0,(.int .i64))],[]⟩ [(1,⟨[2],[],[]⟩),(2,⟨[],[],[]⟩)]),(1689,.join [(0,⟨[0,5,6,7],[(28,0,.bool)],[]⟩)])]
noncomputable def z1r:Ent:=mkE tysC 163 [z41,z10] zEE Tryz.f163 [(.vw,tyRf)] true .bool
theorem z8M:z1r.Ok Tryz.prog:=z08 envC (z02 zBv (z02 z6a z07)) Tryz.func163 (by decide +kernel) (by kernel_rfl)
def zIg:List (Nat×Hint):=[(3,.join [(0,⟨[],[(4,0,.bool)],[]⟩)])]
noncomputable def z5b:Ent:=mkE tysC 156 [z6E,z1r] zIg Tryz.f156 [(.vw,.str),(.vw,tyRf)] true .bool
theorem zHE:z5b.Ok Tryz.prog:=z08 envC (z02 zJ8 (z02 z8M z07)) Tryz.func156 (by decide +kernel) (by kernel_rfl)
def z6X:List (Nat×Hint):=[(3,.join [(0,⟨[],[(4,0,.bool)],[]⟩)])]
noncomputable def z14:Ent:=mkE tysC 207 [] z6X Tryz.f207 [(.vw,.str),(.vw,.str)] true .bool
theorem z6S:z14.Ok Tryz.prog:=z08 envC z07 Tryz.func207 (by decide +kernel) (by kernel_rfl)
def zAh:List (Nat×Hint):=[]
noncomputable def z3J:Ent:=mkE tysC 190 [z14] zAh Tryz.f190 [(.vw,.str),(.vw,.str)] true .bool
theorem zAB:z3J.Ok Tryz.prog:=z08 envC (z02 z6S z07) Tryz.func190 (by decide +kernel) (by kernel_rfl)
def zIe:List (Nat×Hint):=[(3,.join [(0,⟨[],[(4,0,.bool)],[]⟩)])]
noncomputable def z3n:Ent:=mkE tysC 173 [z3J] zIe Tryz.f173 [(.vw,.str),(.vw,.str)] true .bool
theorem z9T:z3n.Ok Tryz.prog:=z08 envC (z02 zAB z07) Tryz.func173 (by decide +kernel) (by kernel_rfl)
def zSD:List (Nat×Hint):=[(58,.loop ⟨[1,2,11,12],[(7,0,tyRt),(13,0,(.int .i64))],[]⟩ [(2,⟨[],[(7,0,tyRt)],[]⟩)]),(467,.join [(0,⟨[1,2,11,12,13],[(7,0,tyRt)],[]⟩)]),(3737,.join [(0,⟨[1,2,7,9,11,12,13],[(30,0,.bool)],[]⟩)]),(0,.frz [6])]
noncomputable def z57:Ent:=mkE tysC 132 [] zSD Tryz.f132 [(.vw,tyRf),(.vw,.str),(.vw,(.int .i64))] true tyRt
theorem zD8:z57.Ok Tryz.prog:=z08 envC z07 Tryz.func132 (by decide +kernel) (by kernel_rfl)
def zGT:List (Nat×Hint):=[(3,.join [(0,⟨[],[(3,0,.bool)],[]⟩)])]
noncomputable def z43:Ent:=mkE tysC 174 [] zGT Tryz.f174 [(.vw,tyR),(.vw,(.ptr tyR))] true .bool
theorem zEo:z43.Ok Tryz.prog:=z08 envC z07 Tryz.func174 (by decide +kernel) (by kernel_rfl)
def z2f:List (Nat×Hint):=[(26,.loop ⟨[0,1,7],[(8,0,(.int .i64))],[]⟩ [(1,⟨[],[(4,0,(.int .i64))],[]⟩),(2,⟨[],[],[]⟩)])]
noncomputable def z0T:Ent:=mkE tysC 164 [z43] z2f Tryz.f164 [(.vw,tyRf),(.vw,(.fn 174 (.pair (.ptr tyR) .unit)))] true (.int .i64)
theorem z2Z:z0T.Ok Tryz.prog:=z08 envC (z02 zEo z07) Tryz.func164 (by decide +kernel) (by kernel_rfl)
def z27:List (Nat×Hint):=[]
noncomputable def z0L:Ent:=mkE tysC 139 [z0T] z27 Tryz.f139 [(.vw,tyRf),(.vw,(.fn 174 (.pair (.ptr tyR) .unit)))] true .bool
theorem z22:z0L.Ok Tryz.prog:=z08 envC (z02 z2Z z07) Tryz.func139 (by decide +kernel) (by kernel_rfl)
def zGU:List (Nat×Hint):=[(7,.join [(0,⟨[],[(4,0,.bool)],[]⟩)]),(3,.join [(0,⟨[2,3],[(5,0,.bool)],[]⟩)])]
noncomputable def z44:Ent:=mkE tysC 175 [z3n] zGU Tryz.f175 [(.vw,tyR),(.vw,(.ptr .str)),(.vw,(.ptr tyR))] true .bool
theorem zEp:z44.Ok Tryz.prog:=z08 envC (z02 z9T z07) Tryz.func175 (by decide +kernel) (by kernel_rfl)
def z2g:List (Nat×Hint):=[(26,.loop ⟨[0,1,7],[(8,0,(.int .i64))],[]⟩ [(1,⟨[],[(4,0,(.int .i64))],[]⟩),(2,⟨[],[],[]⟩)])]
noncomputable def z0U:Ent:=mkE tysC 164 [z44] z2g Tryz.f164 [(.vw,tyRf),(.vw,(.fn 175 (.pair (.ptr .str) (.pair (.ptr tyR) .unit))))] true (.int .i64)
theorem z2a:z0U.Ok Tryz.prog:=z08 envC (z02 zEp z07) Tryz.func164 (by decide +kernel) (by kernel_rfl)
def z28:List (Nat×Hint):=[]
noncomputable def z0M:Ent:=mkE tysC 139 [z0U] z28 Tryz.f139 [(.vw,tyRf),(.vw,(.fn 175 (.pair (.ptr .str) (.pair (.ptr tyR) .unit))))] true .bool
theorem z23:z0M.Ok Tryz.prog:=z08 envC (z02 z2a z07) Tryz.func139 (by decide +kernel) (by kernel_rfl)
def zKi:List (Nat×Hint):=[(27646,.join [(0,⟨[],[(8,0,.bool)],[]⟩)]),(6910,.join [(0,⟨[],[(8,0,.bool)],[]⟩)]),(430,.join [(0,⟨[],[(8,0,.bool)],[]⟩)])]
noncomputable def z6D:Ent:=mkE tysC 158 [z3n,z57,z0L,z0M] zKi Tryz.f158 [(.vw,.str),(.vw,tyRf),(.vw,tyR),(.vw,(.int .i64))] true .bool
theorem zJ7:z6D.Ok Tryz.prog:=z08 envC (z02 z9T (z02 zD8 (z02 z22 (z02 z23 z07)))) Tryz.func158 (by decide +kernel) (by kernel_rfl)
def zGS:List (Nat×Hint):=[]
noncomputable def z42:Ent:=mkE tysC 157 [z6D] zGS Tryz.f157 [(.vw,tyR),(.vw,(.ptr .str)),(.vw,(.ptr tyRf)),(.vw,(.ptr (.int .i64)))] true .bool
theorem zEn:z42.Ok Tryz.prog:=z08 envC (z02 zJ7 z07) Tryz.func157 (by decide +kernel) (by kernel_rfl)
def z2e:List (Nat×Hint):=[(26,.loop ⟨[0,1,7],[(8,0,(.int .i64))],[]⟩ [(1,⟨[],[(4,0,(.int .i64))],[]⟩),(2,⟨[],[],[]⟩)])]
noncomputable def z0S:Ent:=mkE tysC 164 [z42] z2e Tryz.f164 [(.vw,tyRf),(.vw,(.fn 157 (.pair (.ptr .str) (.pair (.ptr tyRf) (.pair (.ptr (.int .i64)) .unit)))))] true (.int .i64)
theorem z2Y:z0S.Ok Tryz.prog:=z08 envC (z02 zEn z07) Tryz.func164 (by decide +kernel) (by kernel_rfl)
def z26:List (Nat×Hint):=[]
noncomputable def z0C:Ent:=mkE tysC 139 [z0S] z26 Tryz.f139 [(.vw,tyRf),(.vw,(.fn 157 (.pair (.ptr .str) (.pair (.ptr tyRf) (.pair (.ptr (.int .i64)) .unit)))))] true .bool
theorem z1z:z0C.Ok Tryz.prog:=z08 envC (z02 z2Y z07) Tryz.func139 (by decide +kernel) (by kernel_rfl)
def zKh:List (Nat×Hint):=[(58,.loop ⟨[2,3],[(5,2,(.int .i64))],[]⟩ [(1,⟨[],[(4,0,(.int .i64))],[]⟩),(2,⟨[],[],[]⟩)]),(932,.join [(0,⟨[2,3,5],[(27,0,.bool)],[]⟩)])]
noncomputable def z6C:Ent:=mkE tysC 131 [z5b,z0C,z57] zKh Tryz.f131 [(.vw,.str),(.vw,tyRf)] true (.int .i64)
theorem zJ6:z6C.Ok Tryz.prog:=z08 envC (z02 zHE (z02 z1z (z02 zD8 z07))) Tryz.func131 (by decide +kernel) (by kernel_rfl)
def zCt:List (Nat×Hint):=[]
noncomputable def z49:Ent:=mkE tysC 133 [z3A] zCt Tryz.f133 [(.vw,(.int .i64))] true .str
theorem zBy:z49.Ok Tryz.prog:=z08 envC (z02 z9a z07) Tryz.func133 (by decide +kernel) (by kernel_rfl)
def zGR:List (Nat×Hint):=[(3,.join [(0,⟨[],[(2,0,.bool)],[]⟩)])]
noncomputable def z0z:Ent:=mkE tysC 107 [z1P,z6C,z57,z49] zGR Tryz.f107 [(.vw,tyZf)] true .bool
theorem z5t:z0z.Ok Tryz.prog:=z08 envC (z02 z6j (z02 zJ6 (z02 zD8 (z02 zBy z07)))) Tryz.func107 (by decide +kernel) (by kernel_rfl)
def zGV:List (Nat×Hint):=[(3,.join [(0,⟨[],[(4,0,.bool)],[]⟩)])]
noncomputable def z58:Ent:=mkE tysC 108 [z0g] zGV Tryz.f108 [(.vw,(.int .i64)),(.vw,(.int .i64))] true .bool
theorem zEq:z58.Ok Tryz.prog:=z08 envC (z02 z2X z07) Tryz.func108 (by decide +kernel) (by kernel_rfl)
def zGX:List (Nat×Hint):=[]
noncomputable def z5B:Ent:=mkE tysC 109 [z0g] zGX Tryz.f109 [(.vw,(.int .i64))] true .bool
theorem zEs:z5B.Ok Tryz.prog:=z08 envC (z02 z2X z07) Tryz.func109 (by decide +kernel) (by kernel_rfl)
def zBU:List (Nat×Hint):=[(58,.loop ⟨[1,22,23],[(24,0,(.int .i64))],[]⟩ [(1,⟨[],[(2,0,.bool)],[]⟩),(2,⟨[],[],[]⟩)]),(3737,.join [(0,⟨[1,22,23,24],[(62,0,.bool)],[]⟩)]),(6,.join [(0,⟨[1],[(20,0,.bool)],[]⟩)])]
noncomputable def z3Z:Ent:=mkE tysC 62 [z0z,z0g,z58,z5B] zBU Tryz.f62 [(.vw,(.pair tyZf (.pair (.lst false tyD) (.pair (.int .i64) .unit))))] true .bool
theorem zAp:z3Z.Ok Tryz.prog:=z08 envC (z02 z5t (z02 z2X (z02 zEq (z02 zEs z07)))) Tryz.func62 (by decide +kernel) (by kernel_rfl)
def zKk:List (Nat×Hint):=[(3,.join [(0,⟨[],[(2,0,.bool)],[]⟩)])]
noncomputable def z6F:Ent:=mkE tysC 138 [z1P,z1r] zKk Tryz.f138 [(.vw,(.pair (.int .i64) (.pair (.int .i64) (.pair tyRf (.pair tyRf .unit)))))] true .bool
theorem zJ9:z6F.Ok Tryz.prog:=z08 envC (z02 z6j (z02 z8M z07)) Tryz.func138 (by decide +kernel) (by kernel_rfl)
def z5T:List (Nat×Hint):=[(26,.loop ⟨[0,3,7],[(8,0,(.int .i64))],[]⟩ [(1,⟨[],[(4,0,(.int .i64))],[]⟩),(2,⟨[],[],[]⟩)])]
noncomputable def z0p:Ent:=mkE tysC 165 [] z5T Tryz.f165 [(.vw,tyRf),(.vw,tyR)] true (.int .i64)
theorem z5L:z0p.Ok Tryz.prog:=z08 envC z07 Tryz.func165 (by decide +kernel) (by kernel_rfl)
def z4x:List (Nat×Hint):=[]
noncomputable def z0N:Ent:=mkE tysC 141 [z0p] z4x Tryz.f141 [(.vw,tyRf),(.vw,tyR)] true .bool
theorem z1y:z0N.Ok Tryz.prog:=z08 envC (z02 z5L z07) Tryz.func141 (by decide +kernel) (by kernel_rfl)
def zCo:List (Nat×Hint):=[]
noncomputable def z3C:Ent:=mkE tysC 140 [z0N] zCo Tryz.f140 [(.vw,tyR),(.vw,(.ptr (.pair (.int .i64) (.pair (.int .i64) (.pair tyRf (.pair tyRf .unit))))))] true .bool
theorem zBt:z3C.Ok Tryz.prog:=z08 envC (z02 z1y z07) Tryz.func140 (by decide +kernel) (by kernel_rfl)
def z2L:List (Nat×Hint):=[(26,.loop ⟨[0,1,7],[(8,0,(.int .i64))],[]⟩ [(1,⟨[],[(4,0,(.int .i64))],[]⟩),(2,⟨[],[],[]⟩)])]
noncomputable def z0Q:Ent:=mkE tysC 164 [z3C] z2L Tryz.f164 [(.vw,tyRf),(.vw,(.fn 140 (.pair (.ptr (.pair (.int .i64) (.pair (.int .i64) (.pair tyRf (.pair tyRf .unit))))) .unit)))] true (.int .i64)
theorem z2B:z0Q.Ok Tryz.prog:=z08 envC (z02 zBt z07) Tryz.func164 (by decide +kernel) (by kernel_rfl)
def z1o:List (Nat×Hint):=[]
noncomputable def z0K:Ent:=mkE tysC 139 [z0Q] z1o Tryz.f139 [(.vw,tyRf),(.vw,(.fn 140 (.pair (.ptr (.pair (.int .i64) (.pair (.int .i64) (.pair tyRf (.pair tyRf .unit))))) .unit)))] true .bool
theorem z1m:z0K.Ok Tryz.prog:=z08 envC (z02 z2B z07) Tryz.func139 (by decide +kernel) (by kernel_rfl)
def zGP:List (Nat×Hint):=[(3,.join [(0,⟨[],[(2,0,.bool)],[]⟩)])]
noncomputable def z1J:Ent:=mkE tysC 112 [z6F,z0K] zGP Tryz.f112 [(.vw,(.pair (.int .i64) (.pair (.int .i64) (.pair tyRf (.pair tyRf .unit)))))] true .bool
theorem z7D:z1J.Ok Tryz.prog:=z08 envC (z02 zJ9 (z02 z1m z07)) Tryz.func112 (by decide +kernel) (by kernel_rfl)
def zBX:List (Nat×Hint):=[(122,.loop ⟨[25,26],[(3,0,(.int .i64)),(27,0,(.int .i64))],[]⟩ [(1,⟨[],[(2,0,.bool)],[]⟩),(2,⟨[],[],[]⟩)]),(15666,.join [(0,⟨[5,25,26,27],[(45,0,.bool)],[]⟩)]),(6,.join [(0,⟨[1],[(21,0,.bool)],[]⟩)])]
noncomputable def z1T:Ent:=mkE tysC 63 [z1K,z1P,z1J] zBX Tryz.f63 [(.vw,(.pair .str (.pair (.int .i64) (.pair (.lst false (.pair (.int .i64) (.pair (.int .i64) (.pair tyRf (.pair tyRf .unit))))) .unit))))] true .bool
theorem z7X:z1T.Ok Tryz.prog:=z08 envC (z02 z5s (z02 z6j (z02 z7D z07))) Tryz.func63 (by decide +kernel) (by kernel_rfl)
def zAe:List (Nat×Hint):=[]
noncomputable def z3H:Ent:=mkE tysC 64 [] zAe Tryz.f64 [(.vw,(.pair .str (.pair (.int .i64) (.pair (.lst false (.pair (.int .i64) (.pair (.int .i64) (.pair tyRf (.pair tyRf .unit))))) .unit))))] true (.int .i64)
theorem zA8:z3H.Ok Tryz.prog:=z08 envC z07 Tryz.func64 (by decide +kernel) (by kernel_rfl)
def zEI:List (Nat×Hint):=[(3,.join [(0,⟨[],[(4,0,.bool)],[]⟩)])]
noncomputable def z1s:Ent:=mkE tysC 68 [z0z] zEI Tryz.f68 [(.vw,(.pair (.pair tyZf (.pair (.lst false tyD) (.pair (.int .i64) .unit))) (.pair (.pair .str (.pair (.int .i64) (.pair (.lst false (.pair (.int .i64) (.pair (.int .i64) (.pair tyRf (.pair tyRf .unit))))) .unit))) (.pair (.lst false (.pair tyZf (.pair tyZf .unit))) (.pair (.lst false (.pair (.int .i64) (.pair .bool (.pair tyZf (.pair (.pair (.int .i64) (.pair (.int .i64) (.pair tyRf (.pair tyRf .unit)))) .unit))))) .unit))))),(.vw,tyZf)] true .bool
theorem z8N:z1s.Ok Tryz.prog:=z08 envC (z02 z5t z07) Tryz.func68 (by decide +kernel) (by kernel_rfl)
def zBV:List (Nat×Hint):=[(3,.join [(0,⟨[],[(3,0,.bool)],[]⟩)])]
noncomputable def z2s:Ent:=mkE tysC 67 [z1s] zBV Tryz.f67 [(.vw,(.pair tyZf (.pair tyZf .unit))),(.vw,(.ptr (.pair (.pair tyZf (.pair (.lst false tyD) (.pair (.int .i64) .unit))) (.pair (.pair .str (.pair (.int .i64) (.pair (.lst false (.pair (.int .i64) (.pair (.int .i64) (.pair tyRf (.pair tyRf .unit))))) .unit))) (.pair (.lst false (.pair tyZf (.pair tyZf .unit))) (.pair (.lst false (.pair (.int .i64) (.pair .bool (.pair tyZf (.pair (.pair (.int .i64) (.pair (.int .i64) (.pair tyRf (.pair tyRf .unit)))) .unit))))) .unit))))))] true .bool
theorem zAq:z2s.Ok Tryz.prog:=z08 envC (z02 z8N z07) Tryz.func67 (by decide +kernel) (by kernel_rfl)
def z2n:List (Nat×Hint):=[(26,.loop ⟨[0,1,7],[(8,0,(.int .i64))],[]⟩ [(1,⟨[],[(4,0,(.int .i64))],[]⟩),(2,⟨[],[],[]⟩)])]
noncomputable def z0W:Ent:=mkE tysC 113 [z2s] z2n Tryz.f113 [(.vw,(.lst false (.pair tyZf (.pair tyZf .unit)))),(.vw,(.fn 67 (.pair (.ptr (.pair (.pair tyZf (.pair (.lst false tyD) (.pair (.int .i64) .unit))) (.pair (.pair .str (.pair (.int .i64) (.pair (.lst false (.pair (.int .i64) (.pair (.int .i64) (.pair tyRf (.pair tyRf .unit))))) .unit))) (.pair (.lst false (.pair tyZf (.pair tyZf .unit))) (.pair (.lst false (.pair (.int .i64) (.pair .bool (.pair tyZf (.pair (.pair (.int .i64) (.pair (.int .i64) (.pair tyRf (.pair tyRf .unit)))) .unit))))) .unit))))) .unit)))] true (.int .i64)
theorem z2i:z0W.Ok Tryz.prog:=z08 envC (z02 zAq z07) Tryz.func113 (by decide +kernel) (by kernel_rfl)
def z2K:List (Nat×Hint):=[]
noncomputable def z0P:Ent:=mkE tysC 66 [z0W] z2K Tryz.f66 [(.vw,(.lst false (.pair tyZf (.pair tyZf .unit)))),(.vw,(.fn 67 (.pair (.ptr (.pair (.pair tyZf (.pair (.lst false tyD) (.pair (.int .i64) .unit))) (.pair (.pair .str (.pair (.int .i64) (.pair (.lst false (.pair (.int .i64) (.pair (.int .i64) (.pair tyRf (.pair tyRf .unit))))) .unit))) (.pair (.lst false (.pair tyZf (.pair tyZf .unit))) (.pair (.lst false (.pair (.int .i64) (.pair .bool (.pair tyZf (.pair (.pair (.int .i64) (.pair (.int .i64) (.pair tyRf (.pair tyRf .unit)))) .unit))))) .unit))))) .unit)))] true .bool
theorem z2A:z0P.Ok Tryz.prog:=z08 envC (z02 z2i z07) Tryz.func66 (by decide +kernel) (by kernel_rfl)
def zGW:List (Nat×Hint):=[(31,.join [(0,⟨[],[(4,0,.bool)],[]⟩)]),(122,.join [(0,⟨[],[(4,0,.bool)],[]⟩)])]
noncomputable def z5A:Ent:=mkE tysC 71 [z0g,z1s,z1J] zGW Tryz.f71 [(.vw,(.pair (.pair tyZf (.pair (.lst false tyD) (.pair (.int .i64) .unit))) (.pair (.pair .str (.pair (.int .i64) (.pair (.lst false (.pair (.int .i64) (.pair (.int .i64) (.pair tyRf (.pair tyRf .unit))))) .unit))) (.pair (.lst false (.pair tyZf (.pair tyZf .unit))) (.pair (.lst false (.pair (.int .i64) (.pair .bool (.pair tyZf (.pair (.pair (.int .i64) (.pair (.int .i64) (.pair tyRf (.pair tyRf .unit)))) .unit))))) .unit))))),(.vw,(.pair (.int .i64) (.pair .bool (.pair tyZf (.pair (.pair (.int .i64) (.pair (.int .i64) (.pair tyRf (.pair tyRf .unit)))) .unit)))))] true .bool
theorem zEr:z5A.Ok Tryz.prog:=z08 envC (z02 z2X (z02 z8N (z02 z7D z07))) Tryz.func71 (by decide +kernel) (by kernel_rfl)
def zBW:List (Nat×Hint):=[]
noncomputable def z2t:Ent:=mkE tysC 70 [z5A] zBW Tryz.f70 [(.vw,(.pair (.int .i64) (.pair .bool (.pair tyZf (.pair (.pair (.int .i64) (.pair (.int .i64) (.pair tyRf (.pair tyRf .unit)))) .unit))))),(.vw,(.ptr (.pair (.pair tyZf (.pair (.lst false tyD) (.pair (.int .i64) .unit))) (.pair (.pair .str (.pair (.int .i64) (.pair (.lst false (.pair (.int .i64) (.pair (.int .i64) (.pair tyRf (.pair tyRf .unit))))) .unit))) (.pair (.lst false (.pair tyZf (.pair tyZf .unit))) (.pair (.lst false (.pair (.int .i64) (.pair .bool (.pair tyZf (.pair (.pair (.int .i64) (.pair (.int .i64) (.pair tyRf (.pair tyRf .unit)))) .unit))))) .unit))))))] true .bool
theorem zAr:z2t.Ok Tryz.prog:=z08 envC (z02 zEr z07) Tryz.func70 (by decide +kernel) (by kernel_rfl)
def z29:List (Nat×Hint):=[(26,.loop ⟨[0,1,7],[(8,0,(.int .i64))],[]⟩ [(1,⟨[],[(4,0,(.int .i64))],[]⟩),(2,⟨[],[],[]⟩)])]
noncomputable def z0O:Ent:=mkE tysC 114 [z2t] z29 Tryz.f114 [(.vw,(.lst false (.pair (.int .i64) (.pair .bool (.pair tyZf (.pair (.pair (.int .i64) (.pair (.int .i64) (.pair tyRf (.pair tyRf .unit)))) .unit)))))),(.vw,(.fn 70 (.pair (.ptr (.pair (.pair tyZf (.pair (.lst false tyD) (.pair (.int .i64) .unit))) (.pair (.pair .str (.pair (.int .i64) (.pair (.lst false (.pair (.int .i64) (.pair (.int .i64) (.pair tyRf (.pair tyRf .unit))))) .unit))) (.pair (.lst false (.pair tyZf (.pair tyZf .unit))) (.pair (.lst false (.pair (.int .i64) (.pair .bool (.pair tyZf (.pair (.pair (.int .i64) (.pair (.int .i64) (.pair tyRf (.pair tyRf .unit)))) .unit))))) .unit))))) .unit)))] true (.int .i64)
theorem z25:z0O.Ok Tryz.prog:=z08 envC (z02 zAr z07) Tryz.func114 (by decide +kernel) (by kernel_rfl)
def z1j:List (Nat×Hint):=[]
noncomputable def z0I:Ent:=mkE tysC 69 [z0O] z1j Tryz.f69 [(.vw,(.lst false (.pair (.int .i64) (.pair .bool (.pair tyZf (.pair (.pair (.int .i64) (.pair (.int .i64) (.pair tyRf (.pair tyRf .unit)))) .unit)))))),(.vw,(.fn 70 (.pair (.ptr (.pair (.pair tyZf (.pair (.lst false tyD) (.pair (.int .i64) .unit))) (.pair (.pair .str (.pair (.int .i64) (.pair (.lst false (.pair (.int .i64) (.pair (.int .i64) (.pair tyRf (.pair tyRf .unit))))) .unit))) (.pair (.lst false (.pair tyZf (.pair tyZf .unit))) (.pair (.lst false (.pair (.int .i64) (.pair .bool (.pair tyZf (.pair (.pair (.int .i64) (.pair (.int .i64) (.pair tyRf (.pair tyRf .unit)))) .unit))))) .unit))))) .unit)))] true .bool
theorem z1d:z0I.Ok Tryz.prog:=z08 envC (z02 z25 z07) Tryz.func69 (by decide +kernel) (by kernel_rfl)
def zED:List (Nat×Hint):=[(15,.join [(0,⟨[],[(2,0,.bool)],[]⟩)]),(14,.join [(0,⟨[1],[(46,0,.bool)],[]⟩)]),(6,.join [(0,⟨[1],[(35,0,.bool)],[]⟩)])]
noncomputable def z4V:Ent:=mkE tysC 23 [z3Z,z1T,z3H,z0g,z0P,z0I] zED Tryz.f23 [(.vw,(.pair (.pair tyZf (.pair (.lst false tyD) (.pair (.int .i64) .unit))) (.pair (.pair .str (.pair (.int .i64) (.pair (.lst false (.pair (.int .i64) (.pair (.int .i64) (.pair tyRf (.pair tyRf .unit))))) .unit))) (.pair (.lst false (.pair tyZf (.pair tyZf .unit))) (.pair (.lst false (.pair (.int .i64) (.pair .bool (.pair tyZf (.pair (.pair (.int .i64) (.pair (.int .i64) (.pair tyRf (.pair tyRf .unit)))) .unit))))) .unit)))))] true .bool
theorem zD7:z4V.Ok Tryz.prog:=z08 envC (z02 zAp (z02 z7X (z02 zA8 (z02 z2X (z02 z2A (z02 z1d z07)))))) Tryz.func23 (by decide +kernel) (by kernel_rfl)
def z5S:List (Nat×Hint):=[]
noncomputable def z0G:Ent:=mkE tysC 117 [] z5S Tryz.f117 [(.vw,tyRf)] true tyRt
theorem z1O:z0G.Ok Tryz.prog:=z08 envC z07 Tryz.func117 (by decide +kernel) (by kernel_rfl)
def zIi:List (Nat×Hint):=[]
noncomputable def z12:Ent:=mkE tysC 74 [z0G] zIi Tryz.f74 [(.vw,tyZf)] true tyZt
theorem z5K:z12.Ok Tryz.prog:=z08 envC (z02 z1O z07) Tryz.func74 (by decide +kernel) (by kernel_rfl)
def z66:List (Nat×Hint):=[]
noncomputable def z0x:Ent:=mkE tysC 115 [] z66 Tryz.f115 [(.vw,(.lst false tyD))] true (.lst true tyD)
theorem z5z:z0x.Ok Tryz.prog:=z08 envC z07 Tryz.func115 (by decide +kernel) (by kernel_rfl)
def zCs:List (Nat×Hint):=[]
noncomputable def z47:Ent:=mkE tysC 72 [z12,z0x] zCs Tryz.f72 [(.vw,(.pair tyZf (.pair (.lst false tyD) (.pair (.int .i64) .unit))))] true (.pair tyZt (.pair (.lst true tyD) (.pair (.int .i64) .unit)))
theorem zBx:z47.Ok Tryz.prog:=z08 envC (z02 z5K (z02 z5z z07)) Tryz.func72 (by decide +kernel) (by kernel_rfl)
def zIh:List (Nat×Hint):=[]
noncomputable def z35:Ent:=mkE tysC 116 [z0G] zIh Tryz.f116 [(.vw,(.pair (.int .i64) (.pair (.int .i64) (.pair tyRf (.pair tyRf .unit)))))] true (.pair (.int .i64) (.pair (.int .i64) (.pair tyRt (.pair tyRt .unit))))
theorem z9U:z35.Ok Tryz.prog:=z08 envC (z02 z1O z07) Tryz.func116 (by decide +kernel) (by kernel_rfl)
def zGb:List (Nat×Hint):=[(58,.loop ⟨[7,8],[(3,0,(.lst true (.pair (.int .i64) (.pair (.int .i64) (.pair tyRt (.pair tyRt .unit)))))),(9,0,(.int .i64))],[]⟩ [(2,⟨[],[(3,0,(.lst true (.pair (.int .i64) (.pair (.int .i64) (.pair tyRt (.pair tyRt .unit))))))],[]⟩)]),(0,.frz [2])]
noncomputable def z2c:Ent:=mkE tysC 73 [z35] zGb Tryz.f73 [(.vw,(.lst false (.pair (.int .i64) (.pair (.int .i64) (.pair tyRf (.pair tyRf .unit))))))] true (.lst true (.pair (.int .i64) (.pair (.int .i64) (.pair tyRt (.pair tyRt .unit)))))
theorem z90:z2c.Ok Tryz.prog:=z08 envC (z02 z9U z07) Tryz.func73 (by decide +kernel) (by kernel_rfl)
def zEJ:List (Nat×Hint):=[]
noncomputable def z4X:Ent:=mkE tysC 75 [z12,z35] zEJ Tryz.f75 [(.vw,(.pair (.int .i64) (.pair .bool (.pair tyZf (.pair (.pair (.int .i64) (.pair (.int .i64) (.pair tyRf (.pair tyRf .unit)))) .unit)))))] true (.pair (.int .i64) (.pair .bool (.pair tyZt (.pair (.pair (.int .i64) (.pair (.int .i64) (.pair tyRt (.pair tyRt .unit)))) .unit))))
theorem zDB:z4X.Ok Tryz.prog:=z08 envC (z02 z5K (z02 z9U z07)) Tryz.func75 (by decide +kernel) (by kernel_rfl)
def zGc:List (Nat×Hint):=[(122,.loop ⟨[2,44,45],[(3,2,(.pair (.pair tyZt (.pair (.lst true tyD) (.pair (.int .i64) .unit))) (.pair (.pair .str (.pair (.int .i64) (.pair (.lst true (.pair (.int .i64) (.pair (.int .i64) (.pair tyRt (.pair tyRt .unit))))) .unit))) (.pair (.lst true (.pair tyZt (.pair tyZt .unit))) (.pair (.lst true (.pair (.int .i64) (.pair .bool (.pair tyZt (.pair (.pair (.int .i64) (.pair (.int .i64) (.pair tyRt (.pair tyRt .unit)))) .unit))))) .unit))))),(46,0,(.int .i64))],[]⟩ [(4,⟨[2],[(3,2,(.pair (.pair tyZt (.pair (.lst true tyD) (.pair (.int .i64) .unit))) (.pair (.pair .str (.pair (.int .i64) (.pair (.lst true (.pair (.int .i64) (.pair (.int .i64) (.pair tyRt (.pair tyRt .unit))))) .unit))) (.pair (.lst true (.pair tyZt (.pair tyZt .unit))) (.pair (.lst true (.pair (.int .i64) (.pair .bool (.pair tyZt (.pair (.pair (.int .i64) (.pair (.int .i64) (.pair tyRt (.pair tyRt .unit)))) .unit))))) .unit)))))],[]⟩)]),(58,.loop ⟨[1,2,24,25],[(3,2,(.pair (.pair tyZt (.pair (.lst true tyD) (.pair (.int .i64) .unit))) (.pair (.pair .str (.pair (.int .i64) (.pair (.lst true (.pair (.int .i64) (.pair (.int .i64) (.pair tyRt (.pair tyRt .unit))))) .unit))) (.pair (.lst true (.pair tyZt (.pair tyZt .unit))) (.pair (.lst true (.pair (.int .i64) (.pair .bool (.pair tyZt (.pair (.pair (.int .i64) (.pair (.int .i64) (.pair tyRt (.pair tyRt .unit)))) .unit))))) .unit))))),(26,0,(.int .i64))],[]⟩ [(2,⟨[1,2],[(3,2,(.pair (.pair tyZt (.pair (.lst true tyD) (.pair (.int .i64) .unit))) (.pair (.pair .str (.pair (.int .i64) (.pair (.lst true (.pair (.int .i64) (.pair (.int .i64) (.pair tyRt (.pair tyRt .unit))))) .unit))) (.pair (.lst true (.pair tyZt (.pair tyZt .unit))) (.pair (.lst true (.pair (.int .i64) (.pair .bool (.pair tyZt (.pair (.pair (.int .i64) (.pair (.int .i64) (.pair tyRt (.pair tyRt .unit)))) .unit))))) .unit)))))],[]⟩)])]
noncomputable def z48:Ent:=mkE tysC 24 [z47,z2c,z12,z4X] zGc Tryz.f24 [(.vw,(.pair (.pair tyZf (.pair (.lst false tyD) (.pair (.int .i64) .unit))) (.pair (.pair .str (.pair (.int .i64) (.pair (.lst false (.pair (.int .i64) (.pair (.int .i64) (.pair tyRf (.pair tyRf .unit))))) .unit))) (.pair (.lst false (.pair tyZf (.pair tyZf .unit))) (.pair (.lst false (.pair (.int .i64) (.pair .bool (.pair tyZf (.pair (.pair (.int .i64) (.pair (.int .i64) (.pair tyRf (.pair tyRf .unit)))) .unit))))) .unit)))))] true (.pair (.pair tyZt (.pair (.lst true tyD) (.pair (.int .i64) .unit))) (.pair (.pair .str (.pair (.int .i64) (.pair (.lst true (.pair (.int .i64) (.pair (.int .i64) (.pair tyRt (.pair tyRt .unit))))) .unit))) (.pair (.lst true (.pair tyZt (.pair tyZt .unit))) (.pair (.lst true (.pair (.int .i64) (.pair .bool (.pair tyZt (.pair (.pair (.int .i64) (.pair (.int .i64) (.pair tyRt (.pair tyRt .unit)))) .unit))))) .unit))))
theorem zEv:z48.Ok Tryz.prog:=z08 envC (z02 zBx (z02 z90 (z02 z5K (z02 zDB z07)))) Tryz.func24 (by decide +kernel) (by kernel_rfl)
def zBa:List (Nat×Hint):=[]
noncomputable def z2v:Ent:=mkE tysC 143 [] zBa Tryz.f143 [(.vw,(.pair (.int .i64) (.pair (.int .i64) (.pair tyRf (.pair tyRf .unit))))),(.vw,(.ptr (.int .i64)))] true .bool
theorem zAu:z2v.Ok Tryz.prog:=z08 envC z07 Tryz.func143 (by decide +kernel) (by kernel_rfl)
def z2m:List (Nat×Hint):=[(26,.loop ⟨[0,1,7],[(8,0,(.int .i64))],[]⟩ [(1,⟨[],[(4,0,(.int .i64))],[]⟩),(2,⟨[],[],[]⟩)])]
noncomputable def z0V:Ent:=mkE tysC 142 [z2v] z2m Tryz.f142 [(.vw,(.lst false (.pair (.int .i64) (.pair (.int .i64) (.pair tyRf (.pair tyRf .unit)))))),(.vw,(.fn 143 (.pair (.ptr (.int .i64)) .unit)))] true (.int .i64)
theorem z2h:z0V.Ok Tryz.prog:=z08 envC (z02 zAu z07) Tryz.func142 (by decide +kernel) (by kernel_rfl)
def zEG:List (Nat×Hint):=[]
noncomputable def z4W:Ent:=mkE tysC 118 [z2c,z0V] zEG Tryz.f118 [(.vw,(.pair .str (.pair (.int .i64) (.pair (.lst false (.pair (.int .i64) (.pair (.int .i64) (.pair tyRf (.pair tyRf .unit))))) .unit)))),(.vw,(.int .i64))] false (.pair (.lst true (.pair (.int .i64) (.pair (.int .i64) (.pair tyRt (.pair tyRt .unit))))) (.pair .bool .unit))
theorem zDA:z4W.Ok Tryz.prog:=z08 envC (z02 z90 (z02 z2h z07)) Tryz.func118 (by decide +kernel) (by kernel_rfl)
def zIj:List (Nat×Hint):=[(58,.loop ⟨[1,9,10],[(5,0,tyRt),(11,0,(.int .i64))],[]⟩ [(2,⟨[],[(5,0,tyRt)],[]⟩)]),(467,.join [(0,⟨[1,9,10,11],[(5,0,tyRt)],[]⟩)]),(0,.frz [4])]
noncomputable def z2S:Ent:=mkE tysC 144 [z0N] zIj Tryz.f144 [(.vw,tyRf),(.vw,tyRf)] true tyRt
theorem zHF:z2S.Ok Tryz.prog:=z08 envC (z02 z1y z07) Tryz.func144 (by decide +kernel) (by kernel_rfl)
def z1C:List (Nat×Hint):=[(31,.join [(0,⟨[],[(6,0,(.int .i64)),(7,0,.bool)],[]⟩)]),(60,.loop ⟨[0,2,4,8],[(9,0,(.int .i64)),(10,0,(.int .i64))],[]⟩ [(2,⟨[0,2,4,8],[(9,0,(.int .i64))],[]⟩)])]
noncomputable def z09:Ent:=mkE tysC 187 [z10] z1C Tryz.f187 [(.vw,tyRf),(.vw,tyR),(.vw,(.fn 186 .unit))] false (.pair (.int .i64) (.pair .bool .unit))
theorem z1B:z09.Ok Tryz.prog:=z08 envC (z02 z6a z07) Tryz.func187 (by decide +kernel) (by kernel_rfl)
def Tryz.insR188:Go.Shelf.Ren:=⟨fun | 22=>188 | 29=>205 | 30=>206 | n=>n,fun | 0=>0 | 3=>3 | 4=>4 | 9=>139 | 24=>36 | n=>n,fun n=>n⟩
noncomputable def Tryz.insI188:TypeInfo:=(Tryz.prog.info? 139).getD default
noncomputable def Tryz.insZ188:Value:=Tryz.insI188.zero.getD default
theorem Tryz.insL188:InsL Tryz.prog Tryz.insR188 Tryz.insI188 Tryz.insZ188:={
 mixed:=by kernel_rfl
 f22:=⟨Tryz.f188.name,by kernel_rfl,Tryz.func188.trans (congrArg some (by kernel_rfl))⟩
 f29:=fun args w=>run_callFunc_extern Tryz.func205 (by kernel_rfl) (by kernel_rfl) (by kernel_rfl) (by kernel_rfl) args w
 t0:=Tryz.underlying0
 a0:=Tryz.isAgg0
 z0:=Tryz.sizeOf0
 v0:=Tryz.zeroValue0
 t3:=Tryz.underlying3
 a3:=Tryz.isAgg3
 z3:=Tryz.sizeOf3
 v3:=Tryz.zeroValue3
 t4:=Tryz.underlying4
 a4:=Tryz.isAgg4
 z4:=Tryz.sizeOf4
 v4:=Tryz.zeroValue4
 z9:=Tryz.sizeOf139
 t24:=Tryz.underlying36
 a24:=Tryz.isAgg36
 z24:=Tryz.sizeOf36
 v24:=Tryz.zeroValue36
 i9:=by kernel_rfl
 iz:=by kernel_rfl
 is:=of_decide_eq_true (by kernel_rfl)
 ic:=by kernel_rfl }
noncomputable abbrev z1L:Ent:=insE 188 tyR 48
theorem z54:z1L.Ok Tryz.prog:=zUw Tryz.insL188 (by kernel_rfl) Tryz.func188 (by decide +kernel) rfl (by kernel_rfl) (by kernel_rfl) rfl rfl rfl
def zQv:List (Nat×Hint):=[(0,.frz [18,4])]
noncomputable def z6e:Ent:=mkE tysC 166 [z09,z1L] zQv Tryz.f166 [(.own,tyRt),(.vw,tyR)] true tyRt
theorem zPA:z6e.Ok Tryz.prog:=z08 envC (z02 z1B (z02 z54 z07)) Tryz.func166 (by decide +kernel) (by kernel_rfl)
def zOw:List (Nat×Hint):=[(58,.loop ⟨[10,11],[(5,0,tyRt),(12,0,(.int .i64))],[]⟩ [(2,⟨[],[(5,0,tyRt)],[]⟩)]),(0,.frz [4])]
noncomputable def z7U:Ent:=mkE tysC 145 [z0G,z6e] zOw Tryz.f145 [(.vw,tyRf),(.vw,tyRf)] true tyRt
theorem zNO:z7U.Ok Tryz.prog:=z08 envC (z02 z1O (z02 zPA z07)) Tryz.func145 (by decide +kernel) (by kernel_rfl)
def zEB:List (Nat×Hint):=[(6,.join [(0,⟨[2,3,4],[(42,0,.bool)],[]⟩)])]
noncomputable def z1q:Ent:=mkE tysC 119 [z0z,z1J,z2S,z7U] zEB Tryz.f119 [(.vw,tyZf),(.vw,(.pair (.int .i64) (.pair (.int .i64) (.pair tyRf (.pair tyRf .unit)))))] false (.pair tyZt (.pair .bool .unit))
theorem zD6:z1q.Ok Tryz.prog:=z08 envC (z02 z5t (z02 z7D (z02 zHF (z02 zNO z07)))) Tryz.func119 (by decide +kernel) (by kernel_rfl)
def zId:List (Nat×Hint):=[(506,.loop ⟨[4,7,40,41],[(9,2,tyZt),(42,0,(.int .i64))],[]⟩ [(1,⟨[],[(4,2,tyZt),(5,0,(.int .i64)),(6,0,.bool)],[]⟩),(2,⟨[4,7],[(9,2,tyZt)],[]⟩)]),(6,.join [(0,⟨[2,3,4],[(26,0,.bool)],[]⟩)])]
noncomputable def z3m:Ent:=mkE tysC 76 [z0z,z1T,z4W,z12,z1q] zId Tryz.f76 [(.vw,tyZf),(.vw,(.pair .str (.pair (.int .i64) (.pair (.lst false (.pair (.int .i64) (.pair (.int .i64) (.pair tyRf (.pair tyRf .unit))))) .unit))))] false (.pair tyZt (.pair (.int .i64) (.pair .bool .unit)))
theorem zHC:z3m.Ok Tryz.prog:=z08 envC (z02 z5t (z02 z7X (z02 zDA (z02 z5K (z02 zD6 z07))))) Tryz.func76 (by decide +kernel) (by kernel_rfl)
def zAd:List (Nat×Hint):=[(122,.loop ⟨[16],[(0,2,(.pair (.pair tyZt (.pair (.lst true tyD) (.pair (.int .i64) .unit))) (.pair (.pair .str (.pair (.int .i64) (.pair (.lst true (.pair (.int .i64) (.pair (.int .i64) (.pair tyRt (.pair tyRt .unit))))) .unit))) (.pair (.lst true (.pair tyZt (.pair tyZt .unit))) (.pair (.lst true (.pair (.int .i64) (.pair .bool (.pair tyZt (.pair (.pair (.int .i64) (.pair (.int .i64) (.pair tyRt (.pair tyRt .unit)))) .unit))))) .unit))))),(3,0,(.int .i64)),(17,0,(.int .i64))],[]⟩ [(2,⟨[],[(0,2,(.pair (.pair tyZt (.pair (.lst true tyD) (.pair (.int .i64) .unit))) (.pair (.pair .str (.pair (.int .i64) (.pair (.lst true (.pair (.int .i64) (.pair (.int .i64) (.pair tyRt (.pair tyRt .unit))))) .unit))) (.pair (.lst true (.pair tyZt (.pair tyZt .unit))) (.pair (.lst true (.pair (.int .i64) (.pair .bool (.pair tyZt (.pair (.pair (.int .i64) (.pair (.int .i64) (.pair tyRt (.pair tyRt .unit)))) .unit))))) .unit))))),(3,0,(.int .i64))],[]⟩)]),(31335,.join [(0,⟨[0,3,5,16,17],[(6,2,tyZt),(7,0,(.int .i64))],[]⟩)])]
noncomputable def z4M:Ent:=mkE tysC 25 [z3m,z12] zAd Tryz.f25 [(.iop,(.pair (.pair tyZt (.pair (.lst true tyD) (.pair (.int .i64) .unit))) (.pair (.pair .str (.pair (.int .i64) (.pair (.lst true (.pair (.int .i64) (.pair (.int .i64) (.pair tyRt (.pair tyRt .unit))))) .unit))) (.pair (.lst true (.pair tyZt (.pair tyZt .unit))) (.pair (.lst true (.pair (.int .i64) (.pair .bool (.pair tyZt (.pair (.pair (.int .i64) (.pair (.int .i64) (.pair tyRt (.pair tyRt .unit)))) .unit))))) .unit)))))] true (.int .i64)
theorem zA7:z4M.Ok Tryz.prog:=z08 envC (z02 zHC (z02 z5K z07)) Tryz.func25 (by decide +kernel) (by kernel_rfl)
def zBY:List (Nat×Hint):=[]
noncomputable def z2u:Ent:=mkE tysC 7 [z4V,z48,z4M] zBY Tryz.f7 [(.vw,(.pair (.pair tyZf (.pair (.lst false tyD) (.pair (.int .i64) .unit))) (.pair (.pair .str (.pair (.int .i64) (.pair (.lst false (.pair (.int .i64) (.pair (.int .i64) (.pair tyRf (.pair tyRf .unit))))) .unit))) (.pair (.lst false (.pair tyZf (.pair tyZf .unit))) (.pair (.lst false (.pair (.int .i64) (.pair .bool (.pair tyZf (.pair (.pair (.int .i64) (.pair (.int .i64) (.pair tyRf (.pair tyRf .unit)))) .unit))))) .unit)))))] false (.pair (.pair (.pair tyZt (.pair (.lst true tyD) (.pair (.int .i64) .unit))) (.pair (.pair .str (.pair (.int .i64) (.pair (.lst true (.pair (.int .i64) (.pair (.int .i64) (.pair tyRt (.pair tyRt .unit))))) .unit))) (.pair (.lst true (.pair tyZt (.pair tyZt .unit))) (.pair (.lst true (.pair (.int .i64) (.pair .bool (.pair tyZt (.pair (.pair (.int .i64) (.pair (.int .i64) (.pair tyRt (.pair tyRt .unit)))) .unit))))) .unit)))) (.pair (.int .i64) (.pair .bool .unit)))
theorem zAs:z2u.Ok Tryz.prog:=z08 envC (z02 zD7 (z02 zEv (z02 zA7 z07))) Tryz.func7 (by decide +kernel) (by kernel_rfl)
def zGe:List (Nat×Hint):=[]
noncomputable def z5C:Ent:=mkE tysC 146 [] zGe Tryz.f146 [(.vw,tyR),(.vw,tyR)] true .bool
theorem zEx:z5C.Ok Tryz.prog:=z08 envC z07 Tryz.func146 (by decide +kernel) (by kernel_rfl)
def zEN:List (Nat×Hint):=[(58,.loop ⟨[0,1],[(5,0,(.int .i64))],[]⟩ [(1,⟨[4],[],[]⟩),(2,⟨[],[],[]⟩)])]
noncomputable def z1t:Ent:=mkE tysC 120 [z5C] zEN Tryz.f120 [(.vw,tyRf),(.vw,tyRf)] true .bool
theorem z8O:z1t.Ok Tryz.prog:=z08 envC (z02 zEx z07) Tryz.func120 (by decide +kernel) (by kernel_rfl)
def zKp:List (Nat×Hint):=[]
noncomputable def z2U:Ent:=mkE tysC 77 [z1t] zKp Tryz.f77 [(.vw,tyZf),(.vw,tyZf)] true .bool
theorem z83:z2U.Ok Tryz.prog:=z08 envC (z02 z8O z07) Tryz.func77 (by decide +kernel) (by kernel_rfl)
def zKn:List (Nat×Hint):=[]
noncomputable def z6G:Ent:=mkE tysC 121 [] zKn Tryz.f121 [(.vw,tyD),(.vw,tyD)] true .bool
theorem zJA:z6G.Ok Tryz.prog:=z08 envC z07 Tryz.func121 (by decide +kernel) (by kernel_rfl)
def zIl:List (Nat×Hint):=[(58,.loop ⟨[0,1],[(5,0,(.int .i64))],[]⟩ [(1,⟨[4],[],[]⟩),(2,⟨[],[],[]⟩)])]
noncomputable def z5d:Ent:=mkE tysC 78 [z6G] zIl Tryz.f78 [(.vw,(.lst false tyD)),(.vw,(.lst false tyD))] true .bool
theorem zHH:z5d.Ok Tryz.prog:=z08 envC (z02 zJA z07) Tryz.func78 (by decide +kernel) (by kernel_rfl)
def zEK:List (Nat×Hint):=[]
noncomputable def z4Y:Ent:=mkE tysC 26 [z2U,z5d] zEK Tryz.f26 [(.vw,(.pair tyZf (.pair (.lst false tyD) (.pair (.int .i64) .unit)))),(.vw,(.pair tyZf (.pair (.lst false tyD) (.pair (.int .i64) .unit))))] true .bool
theorem zDC:z4Y.Ok Tryz.prog:=z08 envC (z02 z83 (z02 zHH z07)) Tryz.func26 (by decide +kernel) (by kernel_rfl)
def zKm:List (Nat×Hint):=[]
noncomputable def z3b:Ent:=mkE tysC 122 [z1t] zKm Tryz.f122 [(.vw,(.pair (.int .i64) (.pair (.int .i64) (.pair tyRf (.pair tyRf .unit))))),(.vw,(.pair (.int .i64) (.pair (.int .i64) (.pair tyRf (.pair tyRf .unit)))))] true .bool
theorem zAF:z3b.Ok Tryz.prog:=z08 envC (z02 z8O z07) Tryz.func122 (by decide +kernel) (by kernel_rfl)
def zIk:List (Nat×Hint):=[(58,.loop ⟨[0,1],[(5,0,(.int .i64))],[]⟩ [(1,⟨[4],[],[]⟩),(2,⟨[],[],[]⟩)])]
noncomputable def z5c:Ent:=mkE tysC 79 [z3b] zIk Tryz.f79 [(.vw,(.lst false (.pair (.int .i64) (.pair (.int .i64) (.pair tyRf (.pair tyRf .unit)))))),(.vw,(.lst false (.pair (.int .i64) (.pair (.int .i64) (.pair tyRf (.pair tyRf .unit))))))] true .bool
theorem zHG:z5c.Ok Tryz.prog:=z08 envC (z02 zAF z07) Tryz.func79 (by decide +kernel) (by kernel_rfl)
def zEL:List (Nat×Hint):=[]
noncomputable def z4Z:Ent:=mkE tysC 27 [z5c] zEL Tryz.f27 [(.vw,(.pair .str (.pair (.int .i64) (.pair (.lst false (.pair (.int .i64) (.pair (.int .i64) (.pair tyRf (.pair tyRf .unit))))) .unit)))),(.vw,(.pair .str (.pair (.int .i64) (.pair (.lst false (.pair (.int .i64) (.pair (.int .i64) (.pair tyRf (.pair tyRf .unit))))) .unit))))] true .bool
theorem zDD:z4Z.Ok Tryz.prog:=z08 envC (z02 zHG z07) Tryz.func27 (by decide +kernel) (by kernel_rfl)
def zKo:List (Nat×Hint):=[]
noncomputable def z5N:Ent:=mkE tysC 80 [z2U] zKo Tryz.f80 [(.vw,(.pair tyZf (.pair tyZf .unit))),(.vw,(.pair tyZf (.pair tyZf .unit)))] true .bool
theorem zJB:z5N.Ok Tryz.prog:=z08 envC (z02 z83 z07) Tryz.func80 (by decide +kernel) (by kernel_rfl)
def zIm:List (Nat×Hint):=[(58,.loop ⟨[0,1],[(5,0,(.int .i64))],[]⟩ [(1,⟨[4],[],[]⟩),(2,⟨[],[],[]⟩)])]
noncomputable def z5e:Ent:=mkE tysC 28 [z5N] zIm Tryz.f28 [(.vw,(.lst false (.pair tyZf (.pair tyZf .unit)))),(.vw,(.lst false (.pair tyZf (.pair tyZf .unit))))] true .bool
theorem zHI:z5e.Ok Tryz.prog:=z08 envC (z02 zJB z07) Tryz.func28 (by decide +kernel) (by kernel_rfl)
def zGd:List (Nat×Hint):=[]
noncomputable def z4A:Ent:=mkE tysC 81 [z2U,z3b] zGd Tryz.f81 [(.vw,(.pair (.int .i64) (.pair .bool (.pair tyZf (.pair (.pair (.int .i64) (.pair (.int .i64) (.pair tyRf (.pair tyRf .unit)))) .unit))))),(.vw,(.pair (.int .i64) (.pair .bool (.pair tyZf (.pair (.pair (.int .i64) (.pair (.int .i64) (.pair tyRf (.pair tyRf .unit)))) .unit)))))] true .bool
theorem zEw:z4A.Ok Tryz.prog:=z08 envC (z02 z83 (z02 zAF z07)) Tryz.func81 (by decide +kernel) (by kernel_rfl)
def zEM:List (Nat×Hint):=[(58,.loop ⟨[0,1],[(5,0,(.int .i64))],[]⟩ [(1,⟨[4],[],[]⟩),(2,⟨[],[],[]⟩)])]
noncomputable def z4a:Ent:=mkE tysC 29 [z4A] zEM Tryz.f29 [(.vw,(.lst false (.pair (.int .i64) (.pair .bool (.pair tyZf (.pair (.pair (.int .i64) (.pair (.int .i64) (.pair tyRf (.pair tyRf .unit)))) .unit)))))),(.vw,(.lst false (.pair (.int .i64) (.pair .bool (.pair tyZf (.pair (.pair (.int .i64) (.pair (.int .i64) (.pair tyRf (.pair tyRf .unit)))) .unit))))))] true .bool
theorem zDE:z4a.Ok Tryz.prog:=z08 envC (z02 zEw z07) Tryz.func29 (by decide +kernel) (by kernel_rfl)
def zIn:List (Nat×Hint):=[]
noncomputable def z2T:Ent:=mkE tysC 8 [z4Y,z4Z,z5e,z4a] zIn Tryz.f8 [(.vw,(.pair (.pair tyZf (.pair (.lst false tyD) (.pair (.int .i64) .unit))) (.pair (.pair .str (.pair (.int .i64) (.pair (.lst false (.pair (.int .i64) (.pair (.int .i64) (.pair tyRf (.pair tyRf .unit))))) .unit))) (.pair (.lst false (.pair tyZf (.pair tyZf .unit))) (.pair (.lst false (.pair (.int .i64) (.pair .bool (.pair tyZf (.pair (.pair (.int .i64) (.pair (.int .i64) (.pair tyRf (.pair tyRf .unit)))) .unit))))) .unit))))),(.vw,(.pair (.pair tyZf (.pair (.lst false tyD) (.pair (.int .i64) .unit))) (.pair (.pair .str (.pair (.int .i64) (.pair (.lst false (.pair (.int .i64) (.pair (.int .i64) (.pair tyRf (.pair tyRf .unit))))) .unit))) (.pair (.lst false (.pair tyZf (.pair tyZf .unit))) (.pair (.lst false (.pair (.int .i64) (.pair .bool (.pair tyZf (.pair (.pair (.int .i64) (.pair (.int .i64) (.pair tyRf (.pair tyRf .unit)))) .unit))))) .unit)))))] true .bool
theorem zHJ:z2T.Ok Tryz.prog:=z08 envC (z02 zDC (z02 zDD (z02 zHI (z02 zDE z07)))) Tryz.func8 (by decide +kernel) (by kernel_rfl)
def zGg:List (Nat×Hint):=[(60,.loop ⟨[],[(0,0,(.int .i64)),(3,0,.str)],[]⟩ [(2,⟨[],[(3,0,.str)],[]⟩)])]
noncomputable def z0a:Ent:=mkE tysC 85 [] zGg Tryz.f85 [(.vw,(.int .i64))] true .str
theorem z3Y:z0a.Ok Tryz.prog:=z08 envC z07 Tryz.func85 (by decide +kernel) (by kernel_rfl)
def zBi:List (Nat×Hint):=[(26,.loop ⟨[],[(0,0,tyRt),(1,0,(.int .i64)),(5,0,(.int .i64))],[]⟩ [(2,⟨[],[(0,0,tyRt),(1,0,(.int .i64))],[]⟩)])]
noncomputable def z0X:Ent:=mkE tysC 86 [z0a] zBi Tryz.f86 [(.io,tyRt),(.vw,(.int .i64))] true (.int .i64)
theorem z4R:z0X.Ok Tryz.prog:=z08 envC (z02 z3Y z07) Tryz.func86 (by decide +kernel) (by kernel_rfl)
def zGh:List (Nat×Hint):=[]
noncomputable def z5E:Ent:=mkE tysC 82 [z0X] zGh Tryz.f82 [(.io,tyZt),(.vw,(.int .i64))] true (.int .i64)
theorem zEz:z5E.Ok Tryz.prog:=z08 envC (z02 z4R z07) Tryz.func82 (by decide +kernel) (by kernel_rfl)
def zET:List (Nat×Hint):=[(26,.loop ⟨[],[(0,0,(.lst true tyD)),(1,0,(.int .i64)),(5,0,(.int .i64))],[]⟩ [(2,⟨[],[(0,0,(.lst true tyD)),(1,0,(.int .i64))],[]⟩)])]
noncomputable def z4f:Ent:=mkE tysC 83 [] zET Tryz.f83 [(.io,(.lst true tyD)),(.vw,(.int .i64))] true (.int .i64)
theorem zDK:z4f.Ok Tryz.prog:=z08 envC z07 Tryz.func83 (by decide +kernel) (by kernel_rfl)
def zBf:List (Nat×Hint):=[]
noncomputable def z3f:Ent:=mkE tysC 30 [z5E,z4f] zBf Tryz.f30 [(.io,(.pair tyZt (.pair (.lst true tyD) (.pair (.int .i64) .unit)))),(.vw,(.int .i64))] true (.int .i64)
theorem zAy:z3f.Ok Tryz.prog:=z08 envC (z02 zEz (z02 zDK z07)) Tryz.func30 (by decide +kernel) (by kernel_rfl)
def zES:List (Nat×Hint):=[(26,.loop ⟨[],[(0,0,(.lst true (.pair (.int .i64) (.pair (.int .i64) (.pair tyRt (.pair tyRt .unit)))))),(1,0,(.int .i64)),(5,0,(.int .i64))],[]⟩ [(2,⟨[],[(0,0,(.lst true (.pair (.int .i64) (.pair (.int .i64) (.pair tyRt (.pair tyRt .unit)))))),(1,0,(.int .i64))],[]⟩)])]
noncomputable def z4e:Ent:=mkE tysC 84 [z0X] zES Tryz.f84 [(.io,(.lst true (.pair (.int .i64) (.pair (.int .i64) (.pair tyRt (.pair tyRt .unit)))))),(.vw,(.int .i64))] true (.int .i64)
theorem zDJ:z4e.Ok Tryz.prog:=z08 envC (z02 z4R z07) Tryz.func84 (by decide +kernel) (by kernel_rfl)
def zBg:List (Nat×Hint):=[]
noncomputable def z3g:Ent:=mkE tysC 31 [z4e] zBg Tryz.f31 [(.io,(.pair .str (.pair (.int .i64) (.pair (.lst true (.pair (.int .i64) (.pair (.int .i64) (.pair tyRt (.pair tyRt .unit))))) .unit)))),(.vw,(.int .i64))] true (.int .i64)
theorem zAz:z3g.Ok Tryz.prog:=z08 envC (z02 zDJ z07) Tryz.func31 (by decide +kernel) (by kernel_rfl)
def zEU:List (Nat×Hint):=[(26,.loop ⟨[],[(0,0,(.lst true (.pair tyZt (.pair tyZt .unit)))),(1,0,(.int .i64)),(5,0,(.int .i64))],[]⟩ [(2,⟨[],[(0,0,(.lst true (.pair tyZt (.pair tyZt .unit)))),(1,0,(.int .i64))],[]⟩)])]
noncomputable def z4g:Ent:=mkE tysC 32 [z0a,z0X] zEU Tryz.f32 [(.io,(.lst true (.pair tyZt (.pair tyZt .unit)))),(.vw,(.int .i64))] true (.int .i64)
theorem zDL:z4g.Ok Tryz.prog:=z08 envC (z02 z3Y (z02 z4R z07)) Tryz.func32 (by decide +kernel) (by kernel_rfl)
def zBh:List (Nat×Hint):=[(26,.loop ⟨[],[(0,0,(.lst true (.pair (.int .i64) (.pair .bool (.pair tyZt (.pair (.pair (.int .i64) (.pair (.int .i64) (.pair tyRt (.pair tyRt .unit)))) .unit)))))),(1,0,(.int .i64)),(5,0,(.int .i64))],[]⟩ [(2,⟨[],[(0,0,(.lst true (.pair (.int .i64) (.pair .bool (.pair tyZt (.pair (.pair (.int .i64) (.pair (.int .i64) (.pair tyRt (.pair tyRt .unit)))) .unit)))))),(1,0,(.int .i64))],[]⟩)])]
noncomputable def z2w:Ent:=mkE tysC 33 [z0a,z0X] zBh Tryz.f33 [(.io,(.lst true (.pair (.int .i64) (.pair .bool (.pair tyZt (.pair (.pair (.int .i64) (.pair (.int .i64) (.pair tyRt (.pair tyRt .unit)))) .unit)))))),(.vw,(.int .i64))] true (.int .i64)
theorem zB0:z2w.Ok Tryz.prog:=z08 envC (z02 z3Y (z02 z4R z07)) Tryz.func33 (by decide +kernel) (by kernel_rfl)
def zEV:List (Nat×Hint):=[]
noncomputable def z3W:Ent:=mkE tysC 9 [z3f,z3g,z4g,z2w] zEV Tryz.f9 [(.io,(.pair (.pair tyZt (.pair (.lst true tyD) (.pair (.int .i64) .unit))) (.pair (.pair .str (.pair (.int .i64) (.pair (.lst true (.pair (.int .i64) (.pair (.int .i64) (.pair tyRt (.pair tyRt .unit))))) .unit))) (.pair (.lst true (.pair tyZt (.pair tyZt .unit))) (.pair (.lst true (.pair (.int .i64) (.pair .bool (.pair tyZt (.pair (.pair (.int .i64) (.pair (.int .i64) (.pair tyRt (.pair tyRt .unit)))) .unit))))) .unit))))),(.vw,(.int .i64))] true (.int .i64)
theorem zDM:z3W.Ok Tryz.prog:=z08 envC (z02 zAy (z02 zAz (z02 zDL (z02 zB0 z07)))) Tryz.func9 (by decide +kernel) (by kernel_rfl)
def zBe:List (Nat×Hint):=[(26,.loop ⟨[0],[(1,0,(.int .i64)),(5,0,(.int .i64))],[]⟩ [(1,⟨[],[(4,0,(.int .i64))],[]⟩),(2,⟨[],[(1,0,(.int .i64))],[]⟩)])]
noncomputable def z0i:Ent:=mkE tysC 90 [z0a] zBe Tryz.f90 [(.vw,tyRf),(.vw,(.int .i64))] true (.int .i64)
theorem z4Q:z0i.Ok Tryz.prog:=z08 envC (z02 z3Y z07) Tryz.func90 (by decide +kernel) (by kernel_rfl)
def zGf:List (Nat×Hint):=[]
noncomputable def z5D:Ent:=mkE tysC 87 [z0i] zGf Tryz.f87 [(.vw,tyZf),(.vw,(.int .i64))] true (.int .i64)
theorem zEy:z5D.Ok Tryz.prog:=z08 envC (z02 z4Q z07) Tryz.func87 (by decide +kernel) (by kernel_rfl)
def zEP:List (Nat×Hint):=[(26,.loop ⟨[0],[(1,0,(.int .i64)),(5,0,(.int .i64))],[]⟩ [(1,⟨[],[(4,0,(.int .i64))],[]⟩),(2,⟨[],[(1,0,(.int .i64))],[]⟩)])]
noncomputable def z4c:Ent:=mkE tysC 88 [] zEP Tryz.f88 [(.vw,(.lst false tyD)),(.vw,(.int .i64))] true (.int .i64)
theorem zDG:z4c.Ok Tryz.prog:=z08 envC z07 Tryz.func88 (by decide +kernel) (by kernel_rfl)
def zBb:List (Nat×Hint):=[]
noncomputable def z3c:Ent:=mkE tysC 34 [z5D,z4c] zBb Tryz.f34 [(.vw,(.pair tyZf (.pair (.lst false tyD) (.pair (.int .i64) .unit)))),(.vw,(.int .i64))] true (.int .i64)
theorem zAv:z3c.Ok Tryz.prog:=z08 envC (z02 zEy (z02 zDG z07)) Tryz.func34 (by decide +kernel) (by kernel_rfl)
def zEO:List (Nat×Hint):=[(26,.loop ⟨[0],[(1,0,(.int .i64)),(5,0,(.int .i64))],[]⟩ [(1,⟨[],[(4,0,(.int .i64))],[]⟩),(2,⟨[],[(1,0,(.int .i64))],[]⟩)])]
noncomputable def z4b:Ent:=mkE tysC 89 [z0i] zEO Tryz.f89 [(.vw,(.lst false (.pair (.int .i64) (.pair (.int .i64) (.pair tyRf (.pair tyRf .unit)))))),(.vw,(.int .i64))] true (.int .i64)
theorem zDF:z4b.Ok Tryz.prog:=z08 envC (z02 z4Q z07) Tryz.func89 (by decide +kernel) (by kernel_rfl)
def zBc:List (Nat×Hint):=[]
noncomputable def z3d:Ent:=mkE tysC 35 [z4b] zBc Tryz.f35 [(.vw,(.pair .str (.pair (.int .i64) (.pair (.lst false (.pair (.int .i64) (.pair (.int .i64) (.pair tyRf (.pair tyRf .unit))))) .unit)))),(.vw,(.int .i64))] true (.int .i64)
theorem zAw:z3d.Ok Tryz.prog:=z08 envC (z02 zDF z07) Tryz.func35 (by decide +kernel) (by kernel_rfl)
def zEQ:List (Nat×Hint):=[(26,.loop ⟨[0],[(1,0,(.int .i64)),(5,0,(.int .i64))],[]⟩ [(1,⟨[],[(4,0,(.int .i64))],[]⟩),(2,⟨[],[(1,0,(.int .i64))],[]⟩)])]
noncomputable def z4d:Ent:=mkE tysC 36 [z0a,z0i] zEQ Tryz.f36 [(.vw,(.lst false (.pair tyZf (.pair tyZf .unit)))),(.vw,(.int .i64))] true (.int .i64)
theorem zDH:z4d.Ok Tryz.prog:=z08 envC (z02 z3Y (z02 z4Q z07)) Tryz.func36 (by decide +kernel) (by kernel_rfl)
def zBd:List (Nat×Hint):=[(26,.loop ⟨[0],[(1,0,(.int .i64)),(5,0,(.int .i64))],[]⟩ [(1,⟨[],[(4,0,(.int .i64))],[]⟩),(2,⟨[],[(1,0,(.int .i64))],[]⟩)])]
noncomputable def z3e:Ent:=mkE tysC 37 [z0a,z0i] zBd Tryz.f37 [(.vw,(.lst false (.pair (.int .i64) (.pair .bool (.pair tyZf (.pair (.pair (.int .i64) (.pair (.int .i64) (.pair tyRf (.pair tyRf .unit)))) .unit)))))),(.vw,(.int .i64))] true (.int .i64)
theorem zAx:z3e.Ok Tryz.prog:=z08 envC (z02 z3Y (z02 z4Q z07)) Tryz.func37 (by decide +kernel) (by kernel_rfl)
def zER:List (Nat×Hint):=[]
noncomputable def z3V:Ent:=mkE tysC 10 [z3c,z3d,z4d,z3e] zER Tryz.f10 [(.vw,(.pair (.pair tyZf (.pair (.lst false tyD) (.pair (.int .i64) .unit))) (.pair (.pair .str (.pair (.int .i64) (.pair (.lst false (.pair (.int .i64) (.pair (.int .i64) (.pair tyRf (.pair tyRf .unit))))) .unit))) (.pair (.lst false (.pair tyZf (.pair tyZf .unit))) (.pair (.lst false (.pair (.int .i64) (.pair .bool (.pair tyZf (.pair (.pair (.int .i64) (.pair (.int .i64) (.pair tyRf (.pair tyRf .unit)))) .unit))))) .unit))))),(.vw,(.int .i64))] true (.int .i64)
theorem zDI:z3V.Ok Tryz.prog:=z08 envC (z02 zAv (z02 zAw (z02 zDH (z02 zAx z07)))) Tryz.func10 (by decide +kernel) (by kernel_rfl)
def z81:List (Nat×Hint):=[(2097150,.join [(0,⟨[8,12],[(108,0,.bool)],[]⟩)]),(8190,.join [(0,⟨[1,4,5,6,8],[(76,0,.bool)],[]⟩)]),(510,.join [(0,⟨[1,4,5,6,7,8,9,10],[(50,0,.bool)],[]⟩)])]
noncomputable def z3o:Ent:=mkE tysC 3 [z5i,z36,z3j,z2u,z2T,z3W,z3V] z81 Tryz.f3 [(.vw,(.pair (.pair tyZf (.pair (.lst false tyD) (.pair (.int .i64) .unit))) (.pair (.pair .str (.pair (.int .i64) (.pair (.lst false (.pair (.int .i64) (.pair (.int .i64) (.pair tyRf (.pair tyRf .unit))))) .unit))) (.pair (.lst false (.pair tyZf (.pair tyZf .unit))) (.pair (.lst false (.pair (.int .i64) (.pair .bool (.pair tyZf (.pair (.pair (.int .i64) (.pair (.int .i64) (.pair tyRf (.pair tyRf .unit)))) .unit))))) .unit)))))] true .bool
theorem z7j:z3o.Ok Tryz.prog:=z08 envC (z02 zHN (z02 zHR (z02 zB2 (z02 zAs (z02 zHJ (z02 zDM (z02 zDI z07))))))) Tryz.func3 (by decide +kernel) (by kernel_rfl)
end Go.Proofs.YtcnjllnhfoiojaaGreatDoor
