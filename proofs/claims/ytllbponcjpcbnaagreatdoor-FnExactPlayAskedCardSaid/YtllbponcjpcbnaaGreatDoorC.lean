/- The functions that the law reaches, each as a program of expressions. -/
import Derived.Test.YtllbponcjpcbnaaGreatDoorLb1
import Derived.Test.YtllbponcjpcbnaaGreatDoorProg
import Derived.KernelRfl
import Derived.Test.YtllbponcjpcbnaaGreatDoorLays
set_option linter.unusedSectionVars false
set_option linter.unusedVariables false
set_option linter.unusedSimpArgs false
namespace Go.Proofs.YtllbponcjpcbnaaGreatDoor
open Go Go.Own
set_option maxRecDepth 100000
instance glbI : Glb := Glb.at [(0, zPD .i64), (2, zMR), (3, zMR), (1, zPC (Lib.pow10Tab.map fun z => Value.int .u64 z).toArray)]
theorem zDA : ∀ h V, Glb.ok h V → ∃ m arr ty fz, h[Tryz.l146_ren.g 1]? = some (.cells arr ty fz) ∧ arr[0]? = some (.int .i64 m) :=
 fun _ _ h => zNg (h (0, zPD .i64) (by simp)).2
theorem zR0 : ∀ h V, Glb.ok h V → ∃ ev arr ty fz, h[Tryz.l172_ren.g 15]? = some (.cells arr ty fz) ∧ arr[0]? = some ev ∧ (ev = .nilIface ∨ ∃ te pe, ev = .iface te pe) :=
 fun _ _ h => zIz (h (2, zMR) (by simp)).2
theorem zQz : ∀ h V, Glb.ok h V → ∃ ev arr ty fz, h[Tryz.l172_ren.g 16]? = some (.cells arr ty fz) ∧ arr[0]? = some ev ∧ (ev = .nilIface ∨ ∃ te pe, ev = .iface te pe) :=
 fun _ _ h => zIz (h (3, zMR) (by simp)).2
theorem zQy : ∀ h V, Glb.ok h V → ∃ ty fz, h[1]? = some (.cells (Lib.pow10Tab.map fun z => Value.int .u64 z).toArray ty fz) :=
 fun _ _ h => zNf (h (1, zPC (Lib.pow10Tab.map fun z => Value.int .u64 z).toArray) (by simp)).2
abbrev tyR : T := .pair .str (.pair (.int .i64) (.pair (.int .i64) (.pair .str .unit)))
abbrev tyD : T := .pair (.int .i64) (.pair (.int .i64) (.pair (.int .i64) (.pair (.int .i64) .unit)))
abbrev tyRf : T := .lst false tyR
abbrev tyRt : T := .lst true tyR
abbrev tyZf : T := .pair .str (.pair (.int .i64) (.pair tyRf .unit))
abbrev tyZt : T := .pair .str (.pair (.int .i64) (.pair tyRt .unit))
def tysC : List (TypeId × T × Nat) := [(3, (.int .i64), 0), (4, .bool, 0), (5, (.int .u8), 0), (9, .str, 0), (22, (.lst true (.pair (.int .i64) (.pair (.int .i64) (.pair (.lst true (.pair (.int .i64) (.pair tyR .unit))) .unit)))), 40), (24, tyRt, 48), (26, tyZt, 0), (27, (.lst true tyD), 32), (29, (.pair tyZt (.pair (.lst true tyD) (.pair (.int .i64) .unit))), 0), (32, (.lst true (.pair (.int .i64) (.pair (.int .i64) (.pair (.lst true (.pair (.int .i64) (.pair tyR .unit))) .unit)))), 40), (41, tyRt, 48), (43, tyZt, 0), (44, (.lst true tyD), 32), (46, (.pair tyZt (.pair (.lst true tyD) (.pair (.int .i64) .unit))), 0), (47, (.lst true (.pair (.int .i64) (.pair tyR .unit))), 56), (49, (.pair (.int .i64) (.pair (.int .i64) (.pair (.lst true (.pair (.int .i64) (.pair tyR .unit))) .unit))), 0), (53, tyD, 0), (57, (.lst true (.pair (.int .i64) (.pair tyR .unit))), 56), (59, (.pair (.int .i64) (.pair (.int .i64) (.pair (.lst true (.pair (.int .i64) (.pair tyR .unit))) .unit))), 0), (91, tyR, 0), (93, (.pair (.int .i64) (.pair tyR .unit)), 0), (98, tyR, 0), (100, (.pair (.int .i64) (.pair tyR .unit)), 0), (106, tyD, 0), (126, (.lst true (.int .u8)), 1), (130, (.lst true .str), 16), (139, (.int .u64), 0), (173, .err, 0), (177, (.lst true (.int .i64)), 8)]
theorem envC : ∀ sig n fx fr, EnvOk Tryz.prog ⟨tyOf tysC, ebOf tysC, sig, n, fx, fr⟩ := by
 refine EnvOk.ofL (fun sig n fx fr t ht => ?_) (by kernel_rfl)
 simp only [tysC, List.map_cons, List.map_nil, List.mem_cons] at ht
 rcases ht with rfl | ht
 ·exact ⟨Tryz.underlying3, rfl, by kernel_rfl, by kernel_rfl⟩
 rcases ht with rfl | ht
 ·exact ⟨Tryz.underlying4, rfl, by kernel_rfl, by kernel_rfl⟩
 rcases ht with rfl | ht
 ·exact ⟨Tryz.underlying5, rfl, by kernel_rfl, by kernel_rfl⟩
 rcases ht with rfl | ht
 ·exact ⟨Tryz.underlying9, rfl, by kernel_rfl, by kernel_rfl⟩
 rcases ht with rfl | ht
 ·exact ⟨⟨rfl, _, Tryz.underlying22, rfl, rfl, by kernel_rfl⟩, rfl, by kernel_rfl, by kernel_rfl⟩
 rcases ht with rfl | ht
 ·exact ⟨⟨rfl, _, Tryz.underlying24, rfl, rfl, by kernel_rfl⟩, rfl, by kernel_rfl, by kernel_rfl⟩
 rcases ht with rfl | ht
 ·exact ⟨⟨_, Tryz.underlying26, rfl, rfl, rfl, rfl, rfl, rfl, rfl, rfl, rfl, trivial⟩, rfl, by kernel_rfl, by kernel_rfl⟩
 rcases ht with rfl | ht
 ·exact ⟨⟨rfl, _, Tryz.underlying27, rfl, rfl, by kernel_rfl⟩, rfl, by kernel_rfl, by kernel_rfl⟩
 rcases ht with rfl | ht
 ·exact ⟨⟨_, Tryz.underlying29, rfl, rfl, rfl, rfl, rfl, rfl, rfl, rfl, rfl, trivial⟩, rfl, by kernel_rfl, by kernel_rfl⟩
 rcases ht with rfl | ht
 ·exact ⟨⟨rfl, _, Tryz.underlying32, rfl, rfl, by kernel_rfl⟩, rfl, by kernel_rfl, by kernel_rfl⟩
 rcases ht with rfl | ht
 ·exact ⟨⟨rfl, _, Tryz.underlying41, rfl, rfl, by kernel_rfl⟩, rfl, by kernel_rfl, by kernel_rfl⟩
 rcases ht with rfl | ht
 ·exact ⟨⟨_, Tryz.underlying43, rfl, rfl, rfl, rfl, rfl, rfl, rfl, rfl, rfl, trivial⟩, rfl, by kernel_rfl, by kernel_rfl⟩
 rcases ht with rfl | ht
 ·exact ⟨⟨rfl, _, Tryz.underlying44, rfl, rfl, by kernel_rfl⟩, rfl, by kernel_rfl, by kernel_rfl⟩
 rcases ht with rfl | ht
 ·exact ⟨⟨_, Tryz.underlying46, rfl, rfl, rfl, rfl, rfl, rfl, rfl, rfl, rfl, trivial⟩, rfl, by kernel_rfl, by kernel_rfl⟩
 rcases ht with rfl | ht
 ·exact ⟨⟨rfl, _, Tryz.underlying47, rfl, rfl, by kernel_rfl⟩, rfl, by kernel_rfl, by kernel_rfl⟩
 rcases ht with rfl | ht
 ·exact ⟨⟨_, Tryz.underlying49, rfl, rfl, rfl, rfl, rfl, rfl, rfl, rfl, rfl, trivial⟩, rfl, by kernel_rfl, by kernel_rfl⟩
 rcases ht with rfl | ht
 ·exact ⟨⟨_, Tryz.underlying53, rfl, rfl, rfl, rfl, rfl, rfl, rfl, rfl, rfl, rfl, rfl, rfl, trivial⟩, rfl, by kernel_rfl, by kernel_rfl⟩
 rcases ht with rfl | ht
 ·exact ⟨⟨rfl, _, Tryz.underlying57, rfl, rfl, by kernel_rfl⟩, rfl, by kernel_rfl, by kernel_rfl⟩
 rcases ht with rfl | ht
 ·exact ⟨⟨_, Tryz.underlying59, rfl, rfl, rfl, rfl, rfl, rfl, rfl, rfl, rfl, trivial⟩, rfl, by kernel_rfl, by kernel_rfl⟩
 rcases ht with rfl | ht
 ·exact ⟨⟨_, Tryz.underlying91, rfl, rfl, rfl, rfl, rfl, rfl, rfl, rfl, rfl, rfl, rfl, rfl, trivial⟩, rfl, by kernel_rfl, by kernel_rfl⟩
 rcases ht with rfl | ht
 ·exact ⟨⟨_, Tryz.underlying93, rfl, rfl, rfl, rfl, rfl, rfl, trivial⟩, rfl, by kernel_rfl, by kernel_rfl⟩
 rcases ht with rfl | ht
 ·exact ⟨⟨_, Tryz.underlying98, rfl, rfl, rfl, rfl, rfl, rfl, rfl, rfl, rfl, rfl, rfl, rfl, trivial⟩, rfl, by kernel_rfl, by kernel_rfl⟩
 rcases ht with rfl | ht
 ·exact ⟨⟨_, Tryz.underlying100, rfl, rfl, rfl, rfl, rfl, rfl, trivial⟩, rfl, by kernel_rfl, by kernel_rfl⟩
 rcases ht with rfl | ht
 ·exact ⟨⟨_, Tryz.underlying106, rfl, rfl, rfl, rfl, rfl, rfl, rfl, rfl, rfl, rfl, rfl, rfl, trivial⟩, rfl, by kernel_rfl, by kernel_rfl⟩
 rcases ht with rfl | ht
 ·exact ⟨⟨rfl, _, Tryz.underlying126, rfl, rfl, by kernel_rfl⟩, rfl, by kernel_rfl, by kernel_rfl⟩
 rcases ht with rfl | ht
 ·exact ⟨⟨rfl, _, Tryz.underlying130, rfl, rfl, by kernel_rfl⟩, rfl, by kernel_rfl, by kernel_rfl⟩
 rcases ht with rfl | ht
 ·exact ⟨Tryz.underlying139, rfl, by kernel_rfl, by kernel_rfl⟩
 rcases ht with rfl | ht
 ·exact ⟨⟨_, Tryz.underlying173⟩, rfl, by kernel_rfl, by kernel_rfl⟩
 rcases ht with rfl | ht
 ·exact ⟨⟨rfl, _, Tryz.underlying177, rfl, rfl, by kernel_rfl⟩, rfl, by kernel_rfl, by kernel_rfl⟩
 cases ht
def zDT : List (Nat × Hint) := []
noncomputable def z4O : Ent := mkE tysC 92 [] zDT Tryz.f92 [(.vw, tyR), (.vw, (.int .i64))] true (.int .i64)
theorem zCG : z4O.Ok Tryz.prog := z0A envC z09 Tryz.func92 (by decide +kernel) (by kernel_rfl)
def zDS : List (Nat × Hint) := []
noncomputable def z3V : Ent := mkE tysC 59 [z4O] zDS Tryz.f59 [(.vw, (.pair (.int .i64) (.pair tyR .unit))), (.vw, (.int .i64))] true (.int .i64)
theorem zCF : z3V.Ok Tryz.prog := z0A envC (z03 zCG z09) Tryz.func59 (by decide +kernel) (by kernel_rfl)
def zBx : List (Nat × Hint) := [(122, .loop ⟨[0], [(1, 0, (.int .i64)), (5, 0, (.int .i64))], []⟩ [(1, ⟨[], [(4, 0, (.int .i64))], []⟩), (2, ⟨[], [(1, 0, (.int .i64))], []⟩)])]
noncomputable def z3w : Ent := mkE tysC 37 [z3V] zBx Tryz.f37 [(.vw, (.lst false (.pair (.int .i64) (.pair tyR .unit)))), (.vw, (.int .i64))] true (.int .i64)
theorem zB3 : z3w.Ok Tryz.prog := z0A envC (z03 zCF z09) Tryz.func37 (by decide +kernel) (by kernel_rfl)
def zFP : List (Nat × Hint) := []
noncomputable def z47 : Ent := mkE tysC 18 [z3w] zFP Tryz.f18 [(.vw, (.pair (.int .i64) (.pair (.int .i64) (.pair (.lst false (.pair (.int .i64) (.pair tyR .unit))) .unit)))), (.vw, (.int .i64))] true (.int .i64)
theorem zE4 : z47.Ok Tryz.prog := z0A envC (z03 zB3 z09) Tryz.func18 (by decide +kernel) (by kernel_rfl)
def zDW : List (Nat × Hint) := []
noncomputable def z4P : Ent := mkE tysC 94 [] zDW Tryz.f94 [(.vw, tyR)] true tyR
theorem zCJ : z4P.Ok Tryz.prog := z0A envC z09 Tryz.func94 (by decide +kernel) (by kernel_rfl)
def zDV : List (Nat × Hint) := []
noncomputable def z3W : Ent := mkE tysC 65 [z4P] zDV Tryz.f65 [(.vw, (.pair (.int .i64) (.pair tyR .unit)))] true (.pair (.int .i64) (.pair tyR .unit))
theorem zCI : z3W.Ok Tryz.prog := z0A envC (z03 zCJ z09) Tryz.func65 (by decide +kernel) (by kernel_rfl)
def zBy : List (Nat × Hint) := [(58, .loop ⟨[0], [(3, 0, (.lst true (.pair (.int .i64) (.pair tyR .unit)))), (4, 0, (.int .i64))], []⟩ [(2, ⟨[], [(3, 0, (.lst true (.pair (.int .i64) (.pair tyR .unit))))], []⟩)]), (0, .frz [2])]
noncomputable def z3x : Ent := mkE tysC 41 [z3W] zBy Tryz.f41 [(.vw, (.lst false (.pair (.int .i64) (.pair tyR .unit))))] true (.lst true (.pair (.int .i64) (.pair tyR .unit)))
theorem zB4 : z3x.Ok Tryz.prog := z0A envC (z03 zCI z09) Tryz.func41 (by decide +kernel) (by kernel_rfl)
def zFQ : List (Nat × Hint) := []
noncomputable def z48 : Ent := mkE tysC 21 [z3x] zFQ Tryz.f21 [(.vw, (.pair (.int .i64) (.pair (.int .i64) (.pair (.lst false (.pair (.int .i64) (.pair tyR .unit))) .unit))))] true (.pair (.int .i64) (.pair (.int .i64) (.pair (.lst true (.pair (.int .i64) (.pair tyR .unit))) .unit)))
theorem zE5 : z48.Ok Tryz.prog := z0A envC (z03 zB4 z09) Tryz.func21 (by decide +kernel) (by kernel_rfl)
def zKY : List (Nat × Hint) := [(3, .join [(0, ⟨[], [(6, 0, .bool)], []⟩)])]
noncomputable def z0l : Ent := mkE tysC 60 [] zKY Tryz.f60 [(.vw, (.int .i64)), (.vw, (.int .i64)), (.vw, (.int .i64))] true .bool
theorem z4S : z0l.Ok Tryz.prog := z0A envC z09 Tryz.func60 (by decide +kernel) (by kernel_rfl)
def zHD : List (Nat × Hint) := [(3, .join [(0, ⟨[], [(4, 0, .bool)], []⟩)])]
noncomputable def z5J : Ent := mkE tysC 45 [z0l] zHD Tryz.f45 [(.vw, (.int .i64)), (.vw, (.int .i64))] true .bool
theorem zFj : z5J.Ok Tryz.prog := z0A envC (z03 z4S z09) Tryz.func45 (by decide +kernel) (by kernel_rfl)
def zFV : List (Nat × Hint) := [(122, .loop ⟨[0, 1], [(5, 0, (.lst true .str)), (6, 0, (.int .i64)), (7, 0, (.int .i64))], []⟩ [(2, ⟨[0], [(5, 0, (.lst true .str)), (6, 0, (.int .i64))], []⟩)]), (489, .join [(0, ⟨[0, 1, 7], [(5, 0, (.lst true .str)), (6, 0, (.int .i64))], []⟩)])]
noncomputable def z2j : Ent := mkE tysC 119 [] zFV Tryz.f119 [(.vw, .str), (.vw, (.int .u8))] true (.lst true .str)
theorem z82 : z2j.Ok Tryz.prog := z0A envC z09 Tryz.func119 (by decide +kernel) (by kernel_rfl)
def zFU : List (Nat × Hint) := [(58, .loop ⟨[0], [(3, 0, (.int .i64))], []⟩ [(1, ⟨[2], [], []⟩), (2, ⟨[0], [], []⟩)]), (1865, .join [(0, ⟨[0, 3], [(38, 0, .bool)], []⟩)])]
noncomputable def z3C : Ent := mkE tysC 120 [z0l] zFU Tryz.f120 [(.vw, .str)] true .bool
theorem zE8 : z3C.Ok Tryz.prog := z0A envC (z03 z4S z09) Tryz.func120 (by decide +kernel) (by kernel_rfl)
def zDZ : List (Nat × Hint) := [(31, .join [(0, ⟨[], [(2, 0, (.lst true .str)), (3, 0, .bool)], []⟩)]), (122, .loop ⟨[0, 4, 11, 12], [(13, 0, (.int .i64))], []⟩ [(1, ⟨[2, 3], [], []⟩), (2, ⟨[0, 4], [], []⟩)])]
noncomputable def z0m : Ent := mkE tysC 98 [z2j, z3C] zDZ Tryz.f98 [(.vw, .str)] false (.pair (.lst true .str) (.pair .bool .unit))
theorem z41 : z0m.Ok Tryz.prog := z0A envC (z03 z82 (z03 zE8 z09)) Tryz.func98 (by decide +kernel) (by kernel_rfl)
def zHF : List (Nat × Hint) := [(58, .loop ⟨[3, 12, 13], [(4, 0, .bool), (14, 0, (.int .i64))], []⟩ [(2, ⟨[], [(4, 0, .bool)], []⟩)]), (467, .join [(0, ⟨[3, 12, 13, 14], [(4, 0, .bool)], []⟩)])]
noncomputable def z3k : Ent := mkE tysC 70 [z0m] zHF Tryz.f70 [(.vw, .str)] true .bool
theorem z8o : z3k.Ok Tryz.prog := z0A envC (z03 z41 z09) Tryz.func70 (by decide +kernel) (by kernel_rfl)
def zIp : List (Nat × Hint) := [(122, .loop ⟨[0], [(3, 0, (.int .i64)), (4, 0, (.int .i64))], []⟩ [(1, ⟨[], [(2, 0, (.int .i64))], []⟩), (2, ⟨[], [(3, 0, (.int .i64))], []⟩)]), (3912, .join [(0, ⟨[0, 3, 4], [(34, 0, .bool)], []⟩)]), (6, .join [(0, ⟨[0], [(18, 0, .bool)], []⟩)])]
noncomputable def z2i : Ent := mkE tysC 139 [z0l] zIp Tryz.f139 [(.vw, .str)] true (.int .i64)
theorem zHS : z2i.Ok Tryz.prog := z0A envC (z03 z4S z09) Tryz.func139 (by decide +kernel) (by kernel_rfl)
def zDb : List (Nat × Hint) := [(58, .loop ⟨[], [(0, 0, (.int .i64)), (5, 0, (.lst true (.int .u8))), (6, 0, (.int .i64))], []⟩ [(2, ⟨[], [(5, 0, (.lst true (.int .u8)))], []⟩)])]
noncomputable def z1G : Ent := mkE tysC 140 [] zDb Tryz.f140 [(.vw, (.int .i64)), (.vw, (.int .i64))] true .str
theorem zCN : z1G.Ok Tryz.prog := z0A envC z09 Tryz.func140 (by decide +kernel) (by kernel_rfl)
def zDc : List (Nat × Hint) := [(15, .join [(0, ⟨[], [(2, 0, .bool)], []⟩)]), (58, .loop ⟨[0, 3, 12, 13], [(4, 0, .bool), (14, 0, (.int .i64))], []⟩ [(2, ⟨[0], [(4, 0, .bool)], []⟩)]), (467, .join [(0, ⟨[0, 3, 12, 13, 14], [(4, 0, .bool)], []⟩)])]
noncomputable def z3Z : Ent := mkE tysC 141 [z0m] zDc Tryz.f141 [(.vw, .str)] true .bool
theorem zCO : z3Z.Ok Tryz.prog := z0A envC (z03 z41 z09) Tryz.func141 (by decide +kernel) (by kernel_rfl)
def zFW : List (Nat × Hint) := [(122, .loop ⟨[3, 13, 14], [(5, 0, .str), (15, 0, (.int .i64))], []⟩ [(2, ⟨[], [(5, 0, .str)], []⟩)])]
noncomputable def z3D : Ent := mkE tysC 142 [z0m] zFW Tryz.f142 [(.vw, .str)] true .str
theorem zE9 : z3D.Ok Tryz.prog := z0A envC (z03 z41 z09) Tryz.func142 (by decide +kernel) (by kernel_rfl)
def zFX : List (Nat × Hint) := [(221170, .loop ⟨[1], [(13, 0, (.int .i64))], []⟩ [(1, ⟨[], [(4, 0, .str), (5, 0, .bool)], []⟩), (5, ⟨[1], [], []⟩)]), (3538724, .join [(0, ⟨[1, 13], [(104, 0, .bool)], []⟩)]), (27642, .join [(0, ⟨[12], [(76, 0, .bool)], []⟩)]), (107, .join [(0, ⟨[1, 14], [(39, 0, .bool)], []⟩)]), (3418, .loop ⟨[7, 19, 20], [(6, 0, .str), (21, 0, (.int .i64))], []⟩ [(1, ⟨[4, 5], [], []⟩), (3, ⟨[7], [(6, 0, .str)], []⟩)])]
noncomputable def z1I : Ent := mkE tysC 121 [z2j, z2i, z0l, z1G, z3Z, z3D] zFX Tryz.f121 [(.vw, (.int .i64)), (.vw, .str)] false (.pair .str (.pair .bool .unit))
theorem z83 : z1I.Ok Tryz.prog := z0A envC (z03 z82 (z03 zHS (z03 z4S (z03 zCN (z03 zCO (z03 zE9 z09)))))) Tryz.func121 (by decide +kernel) (by kernel_rfl)
def zDX : List (Nat × Hint) := []
noncomputable def z4Q : Ent := mkE tysC 122 [z0m] zDX Tryz.f122 [(.vw, .str)] true .bool
theorem zCK : z4Q.Ok Tryz.prog := z0A envC (z03 z41 z09) Tryz.func122 (by decide +kernel) (by kernel_rfl)
def zAk : List (Nat × Hint) := [(7, .join [(0, ⟨[], [(2, 0, .bool)], []⟩)])]
noncomputable def z2A : Ent := mkE tysC 99 [z1I, z4Q, z0l] zAk Tryz.f99 [(.vw, tyR)] true .bool
theorem z6e : z2A.Ok Tryz.prog := z0A envC (z03 z83 (z03 zCK (z03 z4S z09))) Tryz.func99 (by decide +kernel) (by kernel_rfl)
def zC0 : List (Nat × Hint) := [(122, .loop ⟨[5, 7], [(9, 0, (.int .i64))], []⟩ [(1, ⟨[], [(4, 0, (.int .i64))], []⟩), (2, ⟨[5, 7], [], []⟩)]), (488, .join [(0, ⟨[5, 7, 9], [(31, 0, .bool)], []⟩)])]
noncomputable def z3z : Ent := mkE tysC 123 [z0m] zC0 Tryz.f123 [(.vw, .str), (.vw, .str)] true (.int .i64)
theorem zB7 : z3z.Ok Tryz.prog := z0A envC (z03 z41 z09) Tryz.func123 (by decide +kernel) (by kernel_rfl)
def zHE : List (Nat × Hint) := []
noncomputable def z3j : Ent := mkE tysC 124 [] zHE Tryz.f124 [(.vw, .bool)] true (.int .i64)
theorem zFk : z3j.Ok Tryz.prog := z0A envC z09 Tryz.func124 (by decide +kernel) (by kernel_rfl)
def zC1 : List (Nat × Hint) := []
noncomputable def z0z : Ent := mkE tysC 100 [z3z, z1I, z3j] zC1 Tryz.f100 [(.vw, tyR), (.vw, tyR)] true (.int .i64)
theorem z71 : z0z.Ok Tryz.prog := z0A envC (z03 zB7 (z03 z83 (z03 zFk z09))) Tryz.func100 (by decide +kernel) (by kernel_rfl)
def zHH : List (Nat × Hint) := [(26, .loop ⟨[0, 5, 6], [(7, 0, (.int .i64))], []⟩ [(1, ⟨[2], [], []⟩), (2, ⟨[0], [], []⟩)]), (1689, .join [(0, ⟨[0, 5, 6, 7], [(28, 0, .bool)], []⟩)])]
noncomputable def z5K : Ent := mkE tysC 117 [z2A, z0z] zHH Tryz.f117 [(.vw, tyRf)] true .bool
theorem zFm : z5K.Ok Tryz.prog := z0A envC (z03 z6e (z03 z71 z09)) Tryz.func117 (by decide +kernel) (by kernel_rfl)
def zFT : List (Nat × Hint) := [(7, .join [(0, ⟨[], [(4, 0, .bool)], []⟩)])]
noncomputable def z1d : Ent := mkE tysC 101 [] zFT Tryz.f101 [(.vw, .str), (.vw, .str)] true .bool
theorem z81 : z1d.Ok Tryz.prog := z0A envC z09 Tryz.func101 (by decide +kernel) (by kernel_rfl)
def zIs : List (Nat × Hint) := [(26, .loop ⟨[1, 2, 9, 10], [(11, 0, (.int .i64))], []⟩ [(1, ⟨[], [(6, 0, .bool)], []⟩), (2, ⟨[], [], []⟩)]), (1689, .join [(0, ⟨[1, 2, 9, 10, 11], [(24, 0, .bool)], []⟩)])]
noncomputable def z1l : Ent := mkE tysC 72 [] zIs Tryz.f72 [(.vw, tyRf), (.vw, .str), (.vw, (.int .i64))] true .bool
theorem z7I : z1l.Ok Tryz.prog := z0A envC z09 Tryz.func72 (by decide +kernel) (by kernel_rfl)
def zDa : List (Nat × Hint) := [(26, .loop ⟨[0], [(3, 0, (.int .i64))], []⟩ [(1, ⟨[], [(2, 0, .str)], []⟩), (2, ⟨[], [], []⟩)])]
noncomputable def z3Y : Ent := mkE tysC 125 [] zDa Tryz.f125 [(.vw, .str)] true .str
theorem zCM : z3Y.Ok Tryz.prog := z0A envC z09 Tryz.func125 (by decide +kernel) (by kernel_rfl)
def zIr : List (Nat × Hint) := [(60, .loop ⟨[0, 1], [(2, 0, .str), (8, 0, .str), (9, 0, .bool)], []⟩ [(2, ⟨[], [(8, 0, .str), (9, 0, .bool)], []⟩)]), (482, .join [(0, ⟨[0, 1, 2], [(8, 0, .str), (9, 0, .bool)], []⟩)]), (240, .join [(0, ⟨[0, 1, 2, 8, 9], [(17, 0, .bool)], []⟩)])]
noncomputable def z50 : Ent := mkE tysC 102 [z1d, z1l, z3Y] zIr Tryz.f102 [(.vw, .str), (.vw, tyRf), (.vw, .str)] false (.pair .str (.pair .bool .unit))
theorem zHV : z50.Ok Tryz.prog := z0A envC (z03 z81 (z03 z7I (z03 zCM z09))) Tryz.func102 (by decide +kernel) (by kernel_rfl)
def zHI : List (Nat × Hint) := [(2042, .loop ⟨[0, 1, 132, 133], [(134, 0, (.int .i64))], []⟩ [(1, ⟨[], [(4, 0, (.int .i64))], []⟩), (10, ⟨[], [], []⟩)]), (261427, .join [(0, ⟨[0, 1, 132, 133, 134], [(162, 0, .bool)], []⟩)]), (506, .loop ⟨[0, 1, 97, 98], [(99, 0, (.int .i64))], []⟩ [(1, ⟨[], [(4, 0, (.int .i64))], []⟩), (6, ⟨[0, 1], [], []⟩)]), (129638, .loop ⟨[0, 1, 11, 97, 98, 99, 106, 107], [(108, 0, (.int .i64))], []⟩ [(1, ⟨[], [(4, 0, (.int .i64))], []⟩), (8, ⟨[0, 1, 97, 98, 99], [], []⟩)]), (8296857, .join [(0, ⟨[0, 1, 11, 97, 98, 99, 106, 107, 108], [(126, 0, .bool)], []⟩)]), (250, .loop ⟨[0, 1, 43, 44], [(45, 0, (.int .i64))], []⟩ [(1, ⟨[], [(4, 0, (.int .i64))], []⟩), (4, ⟨[0, 1], [], []⟩)]), (16025, .join [(0, ⟨[0, 1, 43, 44, 45], [(95, 0, .bool)], []⟩)]), (58, .loop ⟨[0, 1, 18, 19], [(5, 0, (.int .i64)), (20, 0, (.int .i64))], []⟩ [(1, ⟨[], [(4, 0, (.int .i64))], []⟩), (2, ⟨[0, 1], [(5, 0, (.int .i64))], []⟩)]), (467, .join [(0, ⟨[0, 1, 18, 19, 20], [(5, 0, (.int .i64))], []⟩), (1, ⟨[], [(4, 0, (.int .i64))], []⟩)])]
noncomputable def z3l : Ent := mkE tysC 75 [z1d, z1l, z50] zHI Tryz.f75 [(.vw, .str), (.vw, tyRf)] true (.int .i64)
theorem z8p : z3l.Ok Tryz.prog := z0A envC (z03 z81 (z03 z7I (z03 zHV z09))) Tryz.func75 (by decide +kernel) (by kernel_rfl)
def zHB : List (Nat × Hint) := [(6, .join [(0, ⟨[0, 1], [(12, 0, .bool)], []⟩)])]
noncomputable def z5I : Ent := mkE tysC 93 [z3k, z5K, z3l] zHB Tryz.f93 [(.vw, .str), (.vw, tyRf)] true (.int .i64)
theorem zFh : z5I.Ok Tryz.prog := z0A envC (z03 z8o (z03 zFm (z03 z8p z09))) Tryz.func93 (by decide +kernel) (by kernel_rfl)
def zBa : List (Nat × Hint) := []
noncomputable def zJy : Ent := ⟨103, [(.vw, (.int .i64))], true, .str, fun _ => none⟩
noncomputable def zBf : PE := (comp tysC [zJy] zBa Tryz.f103 [(.vw, (.int .i64))] true .str).getD .bot
noncomputable def z40 : Nat → List D → Option D
 | 0 => fun _ => none
 | k + 1 => zPZ [⟨103, [(.vw, (.int .i64))], true, .str, z40 k⟩] zBf
noncomputable abbrev zBh (k : Nat) : Ent := ⟨103, [(.vw, (.int .i64))], true, .str, z40 k⟩
theorem z8q : ∀ k, (zBh k).Ok Tryz.prog
 | 0 => ⟨⟨Tryz.f103, Tryz.func103, by decide +kernel, by kernel_rfl⟩, fun _ _ _ h => by cases h⟩
 | k + 1 => Ent.ok_of (pe := zBf) (fn := Tryz.f103) (hs := zBa) envC (z03 (z8q k) z09) Tryz.func103 (by decide +kernel) (by kernel_rfl) rfl
noncomputable def z6Z : Ent := zBh 40
theorem zHT : z6Z.Ok Tryz.prog := z8q 40
def zIu : List (Nat × Hint) := []
noncomputable def z3f : Ent := mkE tysC 76 [z6Z] zIu Tryz.f76 [(.vw, tyZf)] true .str
theorem zA6 : z3f.Ok Tryz.prog := z0A envC (z03 zHT z09) Tryz.func76 (by decide +kernel) (by kernel_rfl)
def zDY : List (Nat × Hint) := [(58, .loop ⟨[1, 18, 19], [(20, 0, (.int .i64))], []⟩ [(1, ⟨[], [(2, 0, .bool)], []⟩), (2, ⟨[], [], []⟩)]), (3737, .join [(0, ⟨[1, 18, 19, 20], [(33, 0, .bool)], []⟩)]), (6, .join [(0, ⟨[1], [(16, 0, .bool)], []⟩)])]
noncomputable def z4R : Ent := mkE tysC 62 [z0l, z5I, z3f] zDY Tryz.f62 [(.vw, tyZf)] true .bool
theorem zCL : z4R.Ok Tryz.prog := z0A envC (z03 z4S (z03 zFh (z03 zA6 z09))) Tryz.func62 (by decide +kernel) (by kernel_rfl)
def zIt : List (Nat × Hint) := []
noncomputable def z2O : Ent := mkE tysC 47 [] zIt Tryz.f47 [(.vw, tyZf)] true tyZt
theorem zA5 : z2O.Ok Tryz.prog := z0A envC z09 Tryz.func47 (by decide +kernel) (by kernel_rfl)
def zHC : List (Nat × Hint) := []
noncomputable def z4V : Ent := mkE tysC 28 [z2O] zHC Tryz.f28 [(.vw, (.pair tyZf (.pair (.lst false tyD) (.pair (.int .i64) .unit))))] true (.pair tyZt (.pair (.lst true tyD) (.pair (.int .i64) .unit)))
theorem zFi : z4V.Ok Tryz.prog := z0A envC (z03 zA5 z09) Tryz.func28 (by decide +kernel) (by kernel_rfl)
def zFY : List (Nat × Hint) := [(26, .loop ⟨[0, 5, 6], [(7, 0, (.int .i64))], []⟩ [(1, ⟨[2], [], []⟩), (2, ⟨[0], [], []⟩)]), (1689, .join [(0, ⟨[0, 5, 6, 7], [(26, 0, .bool)], []⟩)])]
noncomputable def z4l : Ent := mkE tysC 71 [z0l, z2A] zFY Tryz.f71 [(.vw, (.lst false (.pair (.int .i64) (.pair tyR .unit))))] true .bool
theorem zEA : z4l.Ok Tryz.prog := z0A envC (z03 z4S (z03 z6e z09)) Tryz.func71 (by decide +kernel) (by kernel_rfl)
def zHG : List (Nat × Hint) := [(58, .loop ⟨[3, 8, 9], [(5, 0, tyRt), (10, 0, (.int .i64))], []⟩ [(2, ⟨[], [(5, 0, tyRt)], []⟩)]), (467, .join [(0, ⟨[3, 8, 9, 10], [(5, 0, tyRt)], []⟩)]), (3737, .join [(0, ⟨[3, 5, 7, 8, 9, 10], [(32, 0, .bool)], []⟩)]), (0, .frz [4])]
noncomputable def z1U : Ent := mkE tysC 73 [] zHG Tryz.f73 [(.vw, tyRf), (.vw, tyR)] true tyRt
theorem zFl : z1U.Ok Tryz.prog := z0A envC z09 Tryz.func73 (by decide +kernel) (by kernel_rfl)
def zIq : List (Nat × Hint) := [(30, .join [(0, ⟨[0, 3, 5], [(33, 0, .bool)], []⟩)]), (28, .loop ⟨[0, 3], [(5, 0, (.int .i64))], []⟩ [(2, ⟨[0, 3], [(5, 0, (.int .i64))], []⟩)]), (112, .join [(0, ⟨[0, 3, 5], [(19, 0, .bool)], []⟩)]), (0, .frz [4])]
noncomputable def z3e : Ent := mkE tysC 74 [z0z] zIq Tryz.f74 [(.own, tyRt), (.vw, tyR)] true tyRt
theorem zHU : z3e.Ok Tryz.prog := z0A envC (z03 z71 z09) Tryz.func74 (by decide +kernel) (by kernel_rfl)
def zAj : List (Nat × Hint) := [(8186, .loop ⟨[4, 9, 108, 109], [(12, 2, tyZt), (110, 0, (.int .i64))], []⟩ [(7, ⟨[4], [(12, 2, tyZt)], []⟩)]), (523929, .join [(0, ⟨[4, 9, 12, 108, 109, 110], [(14, 2, tyR)], []⟩)]), (254, .join [(0, ⟨[2, 4, 9], [(92, 0, .bool)], []⟩)]), (506, .loop ⟨[2, 4, 61, 62], [(9, 0, tyRt), (63, 0, (.int .i64))], []⟩ [(4, ⟨[2, 4], [(9, 0, tyRt)], []⟩)]), (4051, .join [(0, ⟨[2, 4, 61, 62, 63], [(9, 0, tyRt)], []⟩)]), (122, .loop ⟨[1, 2, 4, 24, 25], [(26, 0, (.int .i64))], []⟩ [(1, ⟨[], [(4, 2, tyZt), (5, 0, (.int .i64))], []⟩), (2, ⟨[1, 2, 4], [], []⟩)]), (15667, .join [(0, ⟨[1, 2, 4, 24, 25, 26], [(53, 0, .bool)], []⟩)])]
noncomputable def z2m : Ent := mkE tysC 46 [z4R, z4l, z2O, z1l, z1U, z3e, z3l, z3f] zAj Tryz.f46 [(.vw, tyZf), (.vw, (.lst false (.pair (.int .i64) (.pair tyR .unit))))] false (.pair tyZt (.pair (.int .i64) .unit))
theorem zA3 : z2m.Ok Tryz.prog := z0A envC (z03 zCL (z03 zEA (z03 zA5 (z03 z7I (z03 zFl (z03 zHU (z03 z8p (z03 zA6 z09)))))))) Tryz.func46 (by decide +kernel) (by kernel_rfl)
def zFS : List (Nat × Hint) := [(8191, .join [(0, ⟨[2, 4, 5, 9, 11, 12], [(7, 0, (.int .i64))], []⟩)]), (254, .join [(0, ⟨[2, 3, 4, 5, 7, 8], [(99, 0, .bool)], []⟩)]), (126, .join [(0, ⟨[2, 3, 4, 5, 7, 8], [(66, 0, .bool)], []⟩)]), (31, .join [(0, ⟨[2, 3, 4, 5, 7], [(8, 0, .bool)], []⟩)]), (60, .loop ⟨[2, 3, 4, 5], [(7, 0, (.int .i64))], []⟩ [(2, ⟨[2, 3, 4, 5], [(7, 0, (.int .i64))], []⟩)]), (240, .join [(0, ⟨[2, 3, 4, 5, 7], [(36, 0, .bool)], []⟩)]), (0, .frz [67])]
noncomputable def z49 : Ent := mkE tysC 27 [z5J, z2m] zFS Tryz.f27 [(.own, (.pair tyZt (.pair (.lst true tyD) (.pair (.int .i64) .unit)))), (.vw, (.pair (.int .i64) (.pair (.int .i64) (.pair (.lst false (.pair (.int .i64) (.pair tyR .unit))) .unit))))] false (.pair (.pair tyZt (.pair (.lst true tyD) (.pair (.int .i64) .unit))) (.pair tyD (.pair .bool .unit)))
theorem zE7 : z49.Ok Tryz.prog := z0A envC (z03 zFj (z03 zA3 z09)) Tryz.func27 (by decide +kernel) (by kernel_rfl)
def zH8 : List (Nat × Hint) := [(3, .join [(0, ⟨[], [(6, 0, .bool)], []⟩)])]
noncomputable def z0t : Ent := mkE tysC 67 [] zH8 Tryz.f67 [(.vw, (.int .i64)), (.vw, (.int .i64)), (.vw, (.int .i64))] true .bool
theorem z4C : z0t.Ok Tryz.prog := z0A envC z09 Tryz.func67 (by decide +kernel) (by kernel_rfl)
def zBr : List (Nat × Hint) := []
noncomputable def z3t : Ent := mkE tysC 95 [z0t] zBr Tryz.f95 [(.vw, (.int .i64))] true .bool
theorem zAz : z3t.Ok Tryz.prog := z0A envC (z03 z4C z09) Tryz.func95 (by decide +kernel) (by kernel_rfl)
noncomputable abbrev z2P : Ent := zJi 147
theorem z7V : z2P.Ok Tryz.prog := zOX Tryz.l146 (by kernel_rfl) Tryz.func147 (by decide +kernel) rfl zDA
def zDJ : List (Nat × Hint) := []
noncomputable def z1Q : Ent := mkE tysC 143 [z2P] zDJ Tryz.f143 [(.vw, .str)] true (.lst true .str)
theorem z64 : z1Q.Ok Tryz.prog := z0A envC (z03 z7V z09) Tryz.func143 (by decide +kernel) (by kernel_rfl)
noncomputable abbrev z4B : Ent := zOg 165
theorem zEC : z4B.Ok Tryz.prog := zPg Tryz.l160 (by kernel_rfl) (by kernel_rfl) Tryz.func165 (by decide +kernel) rfl
def zFK : List (Nat × Hint) := [(7, .join [(0, ⟨[], [(2, 0, .bool)], []⟩)])]
noncomputable def z4h : Ent := mkE tysC 146 [z0t, z4B] zFK Tryz.f146 [(.vw, .str)] true .bool
theorem zE0 : z4h.Ok Tryz.prog := z0A envC (z03 z4C (z03 zEC z09)) Tryz.func146 (by decide +kernel) (by kernel_rfl)
def zAb : List (Nat × Hint) := []
noncomputable def z2l : Ent := mkE tysC 145 [z4h] zAb Tryz.f145 [(.vw, .str)] true .bool
theorem z9x : z2l.Ok Tryz.prog := z0A envC (z03 zE0 z09) Tryz.func145 (by decide +kernel) (by kernel_rfl)
def z2y : List (Nat × Hint) := [(26, .loop ⟨[0, 1, 7], [(8, 0, (.int .i64))], []⟩ [(1, ⟨[], [(4, 0, (.int .i64))], []⟩), (2, ⟨[], [], []⟩)])]
noncomputable def z0X : Ent := mkE tysC 164 [z2l] z2y Tryz.f164 [(.vw, (.lst false .str)), (.vw, (.fn 145 .unit))] true (.int .i64)
theorem z2w : z0X.Ok Tryz.prog := z0A envC (z03 z9x z09) Tryz.func164 (by decide +kernel) (by kernel_rfl)
def z2o : List (Nat × Hint) := []
noncomputable def z0V : Ent := mkE tysC 144 [z0X] z2o Tryz.f144 [(.vw, (.lst false .str)), (.vw, (.fn 145 .unit))] true .bool
theorem z2h : z0V.Ok Tryz.prog := z0A envC (z03 z2w z09) Tryz.func144 (by decide +kernel) (by kernel_rfl)
def zDC : List (Nat × Hint) := [(15, .join [(0, ⟨[], [(2, 0, .bool)], []⟩)])]
noncomputable def z1e : Ent := mkE tysC 127 [z1Q, z0V] zDC Tryz.f127 [(.vw, .str)] true .bool
theorem z63 : z1e.Ok Tryz.prog := z0A envC (z03 z64 (z03 z2h z09)) Tryz.func127 (by decide +kernel) (by kernel_rfl)
noncomputable abbrev z1N : Ent := z7e 161
theorem z6M : z1N.Ok Tryz.prog := zIK Tryz.l144 (by kernel_rfl) Tryz.func161 (by decide +kernel) rfl zDA
def zH6 : List (Nat × Hint) := [(3, .join [(0, ⟨[], [(2, 0, .bool)], []⟩)])]
noncomputable def z5E : Ent := mkE tysC 133 [z1e, z1N] zH6 Tryz.f133 [(.vw, .str)] true .bool
theorem zFd : z5E.Ok Tryz.prog := z0A envC (z03 z63 (z03 z6M z09)) Tryz.func133 (by decide +kernel) (by kernel_rfl)
noncomputable abbrev z4A : Ent := zK0 167
theorem zEB : z4A.Ok Tryz.prog := zOq Tryz.l172 (by kernel_rfl) Tryz.func167 (by decide +kernel) rfl zR0 zQz
noncomputable abbrev z2k : Ent := zNh 118
theorem z84 : z2k.Ok Tryz.prog := zPE Tryz.l171 (by kernel_rfl) Tryz.func118 (by decide +kernel) rfl (by kernel_rfl) zQy
def zDK : List (Nat × Hint) := [(7, .join [(0, ⟨[], [(4, 0, (.int .i64)), (5, 0, .bool)], []⟩)])]
noncomputable def z1f : Ent := mkE tysC 148 [z4A, z0t, z2k] zDK Tryz.f148 [(.vw, .str), (.vw, (.int .i64))] false (.pair (.int .i64) (.pair .bool .unit))
theorem zC9 : z1f.Ok Tryz.prog := z0A envC (z03 zEB (z03 z4C (z03 z84 z09))) Tryz.func148 (by decide +kernel) (by kernel_rfl)
def zMO : List (Nat × Hint) := [(58, .loop ⟨[0], [(5, 0, (.lst true (.int .u8))), (6, 0, (.int .i64))], []⟩ [(2, ⟨[], [(5, 0, (.lst true (.int .u8)))], []⟩)])]
noncomputable def z34 : Ent := mkE tysC 149 [] zMO Tryz.f149 [(.vw, (.int .i64)), (.vw, (.int .i64))] true .str
theorem zKj : z34.Ok Tryz.prog := z0A envC z09 Tryz.func149 (by decide +kernel) (by kernel_rfl)
def zDI : List (Nat × Hint) := [(3, .join [(0, ⟨[], [(2, 0, .bool)], []⟩)])]
noncomputable def z3R : Ent := mkE tysC 150 [z1e, z1N] zDI Tryz.f150 [(.vw, .str)] true .bool
theorem zC8 : z3R.Ok Tryz.prog := z0A envC (z03 z63 (z03 z6M z09)) Tryz.func150 (by decide +kernel) (by kernel_rfl)
def zAf : List (Nat × Hint) := [(58, .loop ⟨[7, 8], [(3, 0, .str), (9, 0, (.int .i64))], []⟩ [(2, ⟨[], [(3, 0, .str)], []⟩)])]
noncomputable def z28 : Ent := mkE tysC 151 [z1Q] zAf Tryz.f151 [(.vw, .str)] true .str
theorem zA0 : z28.Ok Tryz.prog := z0A envC (z03 z64 z09) Tryz.func151 (by decide +kernel) (by kernel_rfl)
noncomputable abbrev z4W : Ent := cutE 152
theorem zFn : z4W.Ok Tryz.prog := zQ8 Tryz.l145 (by kernel_rfl) Tryz.func152 (by decide +kernel) rfl zDA
def z9j : List (Nat × Hint) := [(3, .join [(0, ⟨[], [(2, 0, .bool)], []⟩)])]
noncomputable def z2a : Ent := mkE tysC 154 [] z9j Tryz.f154 [(.vw, (.int .u8))] true .bool
theorem z9E : z2a.Ok Tryz.prog := z0A envC z09 Tryz.func154 (by decide +kernel) (by kernel_rfl)
def z3G : List (Nat × Hint) := [(26, .loop ⟨[0, 1, 7], [(8, 0, (.int .i64))], []⟩ [(1, ⟨[], [(4, 0, (.int .i64))], []⟩), (2, ⟨[], [], []⟩)])]
noncomputable def z0Z : Ent := mkE tysC 169 [z2a] z3G Tryz.f169 [(.vw, (.lst false (.int .u8))), (.vw, (.fn 154 .unit))] true (.int .i64)
theorem z3E : z0Z.Ok Tryz.prog := z0A envC (z03 z9E z09) Tryz.func169 (by decide +kernel) (by kernel_rfl)
def z2x : List (Nat × Hint) := []
noncomputable def z0W : Ent := mkE tysC 153 [z0Z] z2x Tryz.f153 [(.vw, (.lst false (.int .u8))), (.vw, (.fn 154 .unit))] true .bool
theorem z2v : z0W.Ok Tryz.prog := z0A envC (z03 z3E z09) Tryz.func153 (by decide +kernel) (by kernel_rfl)
def zBm : List (Nat × Hint) := [(55292, .join [(0, ⟨[1], [(103, 0, .bool)], []⟩)]), (55286, .join [(0, ⟨[15, 17], [(87, 0, .bool)], []⟩)]), (107, .join [(0, ⟨[1, 19], [(48, 0, .bool)], []⟩)]), (3418, .loop ⟨[7, 24, 25], [(6, 0, .str), (26, 0, (.int .i64))], []⟩ [(1, ⟨[4, 5], [], []⟩), (3, ⟨[], [(6, 0, .str)], []⟩)]), (875110, .join [(0, ⟨[6, 7, 10, 24, 25, 26], [(41, 0, .bool)], []⟩)])]
noncomputable def z0y : Ent := mkE tysC 128 [z2P, z1f, z34, z3R, z28, z4W, z0W] zBm Tryz.f128 [(.vw, (.int .i64)), (.vw, .str)] false (.pair .str (.pair .bool .unit))
theorem z6w : z0y.Ok Tryz.prog := z0A envC (z03 z7V (z03 zC9 (z03 zKj (z03 zC8 (z03 zA0 (z03 zFn (z03 z2v z09))))))) Tryz.func128 (by decide +kernel) (by kernel_rfl)
def zAc : List (Nat × Hint) := [(6, .join [(0, ⟨[1], [(20, 0, .bool)], []⟩)])]
noncomputable def z26 : Ent := mkE tysC 108 [z1e, z0t, z0y] zAc Tryz.f108 [(.vw, tyR)] true .bool
theorem z6c : z26.Ok Tryz.prog := z0A envC (z03 z63 (z03 z4C (z03 z6w z09))) Tryz.func108 (by decide +kernel) (by kernel_rfl)
def z5p : List (Nat × Hint) := [(6, .loop ⟨[], [(0, 0, (.lst true .str)), (2, 0, (.int .i64)), (3, 0, (.int .i64))], []⟩ [(2, ⟨[], [(0, 0, (.lst true .str))], []⟩)])]
noncomputable def z0o : Ent := mkE tysC 191 [] z5p Tryz.f191 [(.io, (.lst true .str))] false .unit
theorem z5f : z0o.Ok Tryz.prog := z0A envC z09 Tryz.func191 (by decide +kernel) (by kernel_rfl)
def z9i : List (Nat × Hint) := []
noncomputable def z2Z : Ent := mkE tysC 226 [] z9i Tryz.f226 [(.vw, .str)] true .bool
theorem z9D : z2Z.Ok Tryz.prog := z0A envC z09 Tryz.func226 (by decide +kernel) (by kernel_rfl)
def z8b : List (Nat × Hint) := []
noncomputable def z1L : Ent := mkE tysC 215 [z2Z] z8b Tryz.f215 [(.vw, .str), (.vw, .str)] true (.int .i64)
theorem z7w : z1L.Ok Tryz.prog := z0A envC (z03 z9D z09) Tryz.func215 (by decide +kernel) (by kernel_rfl)
def z5o : List (Nat × Hint) := [(26, .loop ⟨[0, 1, 9, 10], [(11, 0, (.int .i64))], []⟩ [(1, ⟨[], [(4, 0, (.int .i64))], []⟩), (2, ⟨[0, 1], [], []⟩)])]
noncomputable def z10 : Ent := mkE tysC 192 [z1L] z5o Tryz.f192 [(.vw, (.lst false .str)), (.vw, (.lst false .str))] true (.int .i64)
theorem z5e : z10.Ok Tryz.prog := z0A envC (z03 z7w z09) Tryz.func192 (by decide +kernel) (by kernel_rfl)
def z96 : List (Nat × Hint) := []
noncomputable def z2r : Ent := mkE tysC 170 [z1Q, z0o, z10] z96 Tryz.f170 [(.vw, .str), (.vw, .str)] true (.int .i64)
theorem z8g : z2r.Ok Tryz.prog := z0A envC (z03 z64 (z03 z5f (z03 z5e z09))) Tryz.func170 (by decide +kernel) (by kernel_rfl)
def zDB : List (Nat × Hint) := []
noncomputable def z3K : Ent := mkE tysC 105 [] zDB Tryz.f105 [(.vw, (.int .i64))] true .bool
theorem zC2 : z3K.Ok Tryz.prog := z0A envC z09 Tryz.func105 (by decide +kernel) (by kernel_rfl)
def zAa : List (Nat × Hint) := []
noncomputable def z1K : Ent := mkE tysC 81 [z3K] zAa Tryz.f81 [(.vw, (.int .i64)), (.vw, (.int .i64))] true (.int .i64)
theorem z5N : z1K.Ok Tryz.prog := z0A envC (z03 zC2 z09) Tryz.func81 (by decide +kernel) (by kernel_rfl)
def zIn : List (Nat × Hint) := [(58, .loop ⟨[3, 6, 7], [(8, 0, (.int .i64))], []⟩ [(1, ⟨[], [(2, 0, (.int .i64))], []⟩), (2, ⟨[3], [], []⟩)])]
noncomputable def z4H : Ent := mkE tysC 155 [] zIn Tryz.f155 [(.vw, (.lst false (.int .i64)))] true (.int .i64)
theorem z9w : z4H.Ok Tryz.prog := z0A envC z09 Tryz.func155 (by decide +kernel) (by kernel_rfl)
def z9k : List (Nat × Hint) := []
noncomputable def z36 : Ent := mkE tysC 156 [z2r, z1K, z4H] z9k Tryz.f156 [(.vw, tyR), (.vw, tyR)] true (.int .i64)
theorem z9F : z36.Ok Tryz.prog := z0A envC (z03 z8g (z03 z5N (z03 z9w z09))) Tryz.func156 (by decide +kernel) (by kernel_rfl)
def zBq : List (Nat × Hint) := []
noncomputable def z35 : Ent := mkE tysC 158 [z0y] zBq Tryz.f158 [(.vw, (.int .i64)), (.vw, .str)] true .str
theorem zAy : z35.Ok Tryz.prog := z0A envC (z03 z6w z09) Tryz.func158 (by decide +kernel) (by kernel_rfl)
noncomputable abbrev z2n : Ent := zCk 157
theorem zA7 : z2n.Ok Tryz.prog := zK7 Tryz.l106 (by kernel_rfl) Tryz.func157 (by decide +kernel) rfl
def z7o : List (Nat × Hint) := []
noncomputable def z0s : Ent := mkE tysC 131 [z36, z35, z2n, z1K, z4H] z7o Tryz.f131 [(.vw, tyR), (.vw, tyR)] true (.int .i64)
theorem z5W : z0s.Ok Tryz.prog := z0A envC (z03 z9F (z03 zAy (z03 zA7 (z03 z5N (z03 z9w z09))))) Tryz.func131 (by decide +kernel) (by kernel_rfl)
def zBo : List (Nat × Hint) := [(26, .loop ⟨[0, 5, 6], [(7, 0, (.int .i64))], []⟩ [(1, ⟨[2], [], []⟩), (2, ⟨[], [], []⟩)]), (1689, .join [(0, ⟨[0, 5, 6, 7], [(28, 0, .bool)], []⟩)])]
noncomputable def z3s : Ent := mkE tysC 134 [z26, z0s] zBo Tryz.f134 [(.vw, tyRf)] true .bool
theorem zAx : z3s.Ok Tryz.prog := z0A envC (z03 z6c (z03 z5W z09)) Tryz.func134 (by decide +kernel) (by kernel_rfl)
def zFL : List (Nat × Hint) := [(3, .join [(0, ⟨[], [(4, 0, .bool)], []⟩)])]
noncomputable def z4i : Ent := mkE tysC 113 [z5E, z3s] zFL Tryz.f113 [(.vw, .str), (.vw, tyRf)] true .bool
theorem zE1 : z4i.Ok Tryz.prog := z0A envC (z03 zFd (z03 zAx z09)) Tryz.func113 (by decide +kernel) (by kernel_rfl)
def z5S : List (Nat × Hint) := [(3, .join [(0, ⟨[], [(4, 0, .bool)], []⟩)])]
noncomputable def z0v : Ent := mkE tysC 174 [] z5S Tryz.f174 [(.vw, .str), (.vw, .str)] true .bool
theorem z5O : z0v.Ok Tryz.prog := z0A envC z09 Tryz.func174 (by decide +kernel) (by kernel_rfl)
def z97 : List (Nat × Hint) := []
noncomputable def z2t : Ent := mkE tysC 162 [z0v] z97 Tryz.f162 [(.vw, .str), (.vw, .str)] true .bool
theorem z8h : z2t.Ok Tryz.prog := z0A envC (z03 z5O z09) Tryz.func162 (by decide +kernel) (by kernel_rfl)
def zFJ : List (Nat × Hint) := [(3, .join [(0, ⟨[], [(4, 0, .bool)], []⟩)])]
noncomputable def z3B : Ent := mkE tysC 135 [z2t] zFJ Tryz.f135 [(.vw, .str), (.vw, .str)] true .bool
theorem z7x : z3B.Ok Tryz.prog := z0A envC (z03 z8h z09) Tryz.func135 (by decide +kernel) (by kernel_rfl)
def zNc : List (Nat × Hint) := [(58, .loop ⟨[1, 2, 11, 12], [(7, 0, tyRt), (13, 0, (.int .i64))], []⟩ [(2, ⟨[], [(7, 0, tyRt)], []⟩)]), (467, .join [(0, ⟨[1, 2, 11, 12, 13], [(7, 0, tyRt)], []⟩)]), (3737, .join [(0, ⟨[1, 2, 7, 9, 11, 12, 13], [(30, 0, .bool)], []⟩)]), (0, .frz [6])]
noncomputable def z3O : Ent := mkE tysC 96 [] zNc Tryz.f96 [(.vw, tyRf), (.vw, .str), (.vw, (.int .i64))] true tyRt
theorem z8V : z3O.Ok Tryz.prog := z0A envC z09 Tryz.func96 (by decide +kernel) (by kernel_rfl)
def zDF : List (Nat × Hint) := [(3, .join [(0, ⟨[], [(3, 0, .bool)], []⟩)])]
noncomputable def z3P : Ent := mkE tysC 136 [] zDF Tryz.f136 [(.vw, tyR), (.vw, (.ptr tyR))] true .bool
theorem zC5 : z3P.Ok Tryz.prog := z0A envC z09 Tryz.func136 (by decide +kernel) (by kernel_rfl)
def z2R : List (Nat × Hint) := [(26, .loop ⟨[0, 1, 7], [(8, 0, (.int .i64))], []⟩ [(1, ⟨[], [(4, 0, (.int .i64))], []⟩), (2, ⟨[], [], []⟩)])]
noncomputable def z0R : Ent := mkE tysC 129 [z3P] z2R Tryz.f129 [(.vw, tyRf), (.vw, (.fn 136 (.pair (.ptr tyR) .unit)))] true (.int .i64)
theorem z2K : z0R.Ok Tryz.prog := z0A envC (z03 zC5 z09) Tryz.func129 (by decide +kernel) (by kernel_rfl)
def z1u : List (Nat × Hint) := []
noncomputable def z0L : Ent := mkE tysC 114 [z0R] z1u Tryz.f114 [(.vw, tyRf), (.vw, (.fn 136 (.pair (.ptr tyR) .unit)))] true .bool
theorem z1p : z0L.Ok Tryz.prog := z0A envC (z03 z2K z09) Tryz.func114 (by decide +kernel) (by kernel_rfl)
def zDG : List (Nat × Hint) := [(7, .join [(0, ⟨[], [(4, 0, .bool)], []⟩)]), (3, .join [(0, ⟨[2, 3], [(5, 0, .bool)], []⟩)])]
noncomputable def z3Q : Ent := mkE tysC 137 [z3B] zDG Tryz.f137 [(.vw, tyR), (.vw, (.ptr .str)), (.vw, (.ptr tyR))] true .bool
theorem zC6 : z3Q.Ok Tryz.prog := z0A envC (z03 z7x z09) Tryz.func137 (by decide +kernel) (by kernel_rfl)
def z2S : List (Nat × Hint) := [(26, .loop ⟨[0, 1, 7], [(8, 0, (.int .i64))], []⟩ [(1, ⟨[], [(4, 0, (.int .i64))], []⟩), (2, ⟨[], [], []⟩)])]
noncomputable def z0S : Ent := mkE tysC 129 [z3Q] z2S Tryz.f129 [(.vw, tyRf), (.vw, (.fn 137 (.pair (.ptr .str) (.pair (.ptr tyR) .unit))))] true (.int .i64)
theorem z2L : z0S.Ok Tryz.prog := z0A envC (z03 zC6 z09) Tryz.func129 (by decide +kernel) (by kernel_rfl)
def z1v : List (Nat × Hint) := []
noncomputable def z0M : Ent := mkE tysC 114 [z0S] z1v Tryz.f114 [(.vw, tyRf), (.vw, (.fn 137 (.pair (.ptr .str) (.pair (.ptr tyR) .unit))))] true .bool
theorem z1q : z0M.Ok Tryz.prog := z0A envC (z03 z2L z09) Tryz.func114 (by decide +kernel) (by kernel_rfl)
def zH5 : List (Nat × Hint) := [(27646, .join [(0, ⟨[], [(8, 0, .bool)], []⟩)]), (6910, .join [(0, ⟨[], [(8, 0, .bool)], []⟩)]), (430, .join [(0, ⟨[], [(8, 0, .bool)], []⟩)])]
noncomputable def z5D : Ent := mkE tysC 116 [z3B, z3O, z0L, z0M] zH5 Tryz.f116 [(.vw, .str), (.vw, tyRf), (.vw, tyR), (.vw, (.int .i64))] true .bool
theorem zFc : z5D.Ok Tryz.prog := z0A envC (z03 z7x (z03 z8V (z03 z1p (z03 z1q z09)))) Tryz.func116 (by decide +kernel) (by kernel_rfl)
def zDE : List (Nat × Hint) := []
noncomputable def z3M : Ent := mkE tysC 115 [z5D] zDE Tryz.f115 [(.vw, tyR), (.vw, (.ptr .str)), (.vw, (.ptr tyRf)), (.vw, (.ptr (.int .i64)))] true .bool
theorem zC4 : z3M.Ok Tryz.prog := z0A envC (z03 zFc z09) Tryz.func115 (by decide +kernel) (by kernel_rfl)
def z2Q : List (Nat × Hint) := [(26, .loop ⟨[0, 1, 7], [(8, 0, (.int .i64))], []⟩ [(1, ⟨[], [(4, 0, (.int .i64))], []⟩), (2, ⟨[], [], []⟩)])]
noncomputable def z0Q : Ent := mkE tysC 129 [z3M] z2Q Tryz.f129 [(.vw, tyRf), (.vw, (.fn 115 (.pair (.ptr .str) (.pair (.ptr tyRf) (.pair (.ptr (.int .i64)) .unit)))))] true (.int .i64)
theorem z2J : z0Q.Ok Tryz.prog := z0A envC (z03 zC4 z09) Tryz.func129 (by decide +kernel) (by kernel_rfl)
def z1t : List (Nat × Hint) := []
noncomputable def z0C : Ent := mkE tysC 114 [z0Q] z1t Tryz.f114 [(.vw, tyRf), (.vw, (.fn 115 (.pair (.ptr .str) (.pair (.ptr tyRf) (.pair (.ptr (.int .i64)) .unit)))))] true .bool
theorem z1o : z0C.Ok Tryz.prog := z0A envC (z03 z2J z09) Tryz.func114 (by decide +kernel) (by kernel_rfl)
def zH4 : List (Nat × Hint) := [(58, .loop ⟨[2, 3], [(5, 2, (.int .i64))], []⟩ [(1, ⟨[], [(4, 0, (.int .i64))], []⟩), (2, ⟨[], [], []⟩)]), (932, .join [(0, ⟨[2, 3, 5], [(27, 0, .bool)], []⟩)])]
noncomputable def z3h : Ent := mkE tysC 89 [z4i, z0C, z3O] zH4 Tryz.f89 [(.vw, .str), (.vw, tyRf)] true (.int .i64)
theorem z8n : z3h.Ok Tryz.prog := z0A envC (z03 zE1 (z03 z1o (z03 z8V z09))) Tryz.func89 (by decide +kernel) (by kernel_rfl)
def zAh : List (Nat × Hint) := []
noncomputable def z29 : Ent := mkE tysC 97 [z2k] zAh Tryz.f97 [(.vw, (.int .i64))] true .str
theorem z6d : z29.Ok Tryz.prog := z0A envC (z03 z84 z09) Tryz.func97 (by decide +kernel) (by kernel_rfl)
def zDD : List (Nat × Hint) := [(3, .join [(0, ⟨[], [(2, 0, .bool)], []⟩)])]
noncomputable def z4I : Ent := mkE tysC 66 [z3t, z3h, z3O, z29] zDD Tryz.f66 [(.vw, tyZf)] true .bool
theorem zC3 : z4I.Ok Tryz.prog := z0A envC (z03 zAz (z03 z8n (z03 z8V (z03 z6d z09)))) Tryz.func66 (by decide +kernel) (by kernel_rfl)
def zDH : List (Nat × Hint) := [(3, .join [(0, ⟨[], [(4, 0, .bool)], []⟩)])]
noncomputable def z4J : Ent := mkE tysC 49 [z0t] zDH Tryz.f49 [(.vw, (.int .i64)), (.vw, (.int .i64))] true .bool
theorem zC7 : z4J.Ok Tryz.prog := z0A envC (z03 z4C z09) Tryz.func49 (by decide +kernel) (by kernel_rfl)
def z4X : List (Nat × Hint) := []
noncomputable def z0H : Ent := mkE tysC 104 [] z4X Tryz.f104 [(.vw, tyRf)] true tyRt
theorem z1H : z0H.Ok Tryz.prog := z0A envC z09 Tryz.func104 (by decide +kernel) (by kernel_rfl)
def zFM : List (Nat × Hint) := []
noncomputable def z4j : Ent := mkE tysC 77 [z0H] zFM Tryz.f77 [(.vw, tyZf)] true tyZt
theorem zE2 : z4j.Ok Tryz.prog := z0A envC (z03 z1H z09) Tryz.func77 (by decide +kernel) (by kernel_rfl)
def z56 : List (Nat × Hint) := []
noncomputable def z0q : Ent := mkE tysC 78 [] z56 Tryz.f78 [(.vw, (.lst false tyD))] true (.lst true tyD)
theorem z4x : z0q.Ok Tryz.prog := z0A envC z09 Tryz.func78 (by decide +kernel) (by kernel_rfl)
def zAg : List (Nat × Hint) := []
noncomputable def z3S : Ent := mkE tysC 50 [z4j, z0q] zAg Tryz.f50 [(.vw, (.pair tyZf (.pair (.lst false tyD) (.pair (.int .i64) .unit))))] true (.pair tyZt (.pair (.lst true tyD) (.pair (.int .i64) .unit)))
theorem zA1 : z3S.Ok Tryz.prog := z0A envC (z03 zE2 (z03 z4x z09)) Tryz.func50 (by decide +kernel) (by kernel_rfl)
def z7n : List (Nat × Hint) := []
noncomputable def z1E : Ent := mkE tysC 80 [z1K] z7n Tryz.f80 [(.vw, tyD), (.vw, (.int .i64))] true (.int .i64)
theorem z7Z : z1E.Ok Tryz.prog := z0A envC (z03 z5N z09) Tryz.func80 (by decide +kernel) (by kernel_rfl)
def z1O : List (Nat × Hint) := [(31, .join [(0, ⟨[], [(6, 0, (.int .i64)), (7, 0, .bool)], []⟩)]), (60, .loop ⟨[0, 1, 2, 8], [(9, 0, (.int .i64)), (10, 0, (.int .i64))], []⟩ [(2, ⟨[0, 1, 2, 8], [(9, 0, (.int .i64))], []⟩)])]
noncomputable def z0P : Ent := mkE tysC 79 [z1E] z1O Tryz.f79 [(.vw, (.lst false tyD)), (.vw, (.int .i64)), (.vw, (.fn 80 .unit))] false (.pair (.int .i64) (.pair .bool .unit))
theorem z1M : z0P.Ok Tryz.prog := z0A envC (z03 z7Z z09) Tryz.func79 (by decide +kernel) (by kernel_rfl)
def z93 : List (Nat × Hint) := []
noncomputable def z2q : Ent := mkE tysC 51 [z0P] z93 Tryz.f51 [(.vw, (.pair tyZf (.pair (.lst false tyD) (.pair (.int .i64) .unit)))), (.vw, (.int .i64))] false (.pair (.int .i64) (.pair .bool .unit))
theorem z8d : z2q.Ok Tryz.prog := z0A envC (z03 z1M z09) Tryz.func51 (by decide +kernel) (by kernel_rfl)
def Tryz.insR52 : Go.Shelf.Ren := ⟨fun | 22 => 52 | 29 => 82 | 30 => 83 | n => n, fun | 0 => 0 | 3 => 3 | 4 => 4 | 9 => 53 | 24 => 27 | n => n, fun n => n⟩
noncomputable def Tryz.insI52 : TypeInfo := (Tryz.prog.info? 53).getD default
noncomputable def Tryz.insZ52 : Value := Tryz.insI52.zero.getD default
theorem Tryz.insL52 : InsL Tryz.prog Tryz.insR52 Tryz.insI52 Tryz.insZ52 := {
 mixed := by kernel_rfl
 f22 := ⟨Tryz.f52.name, by kernel_rfl, Tryz.func52.trans (congrArg some (by kernel_rfl))⟩
 f29 := fun args w => run_callFunc_extern Tryz.func82 (by kernel_rfl) (by kernel_rfl) (by kernel_rfl) (by kernel_rfl) args w
 t0 := Tryz.underlying0
 a0 := Tryz.isAgg0
 z0 := Tryz.sizeOf0
 v0 := Tryz.zeroValue0
 t3 := Tryz.underlying3
 a3 := Tryz.isAgg3
 z3 := Tryz.sizeOf3
 v3 := Tryz.zeroValue3
 t4 := Tryz.underlying4
 a4 := Tryz.isAgg4
 z4 := Tryz.sizeOf4
 v4 := Tryz.zeroValue4
 z9 := Tryz.sizeOf53
 t24 := Tryz.underlying27
 a24 := Tryz.isAgg27
 z24 := Tryz.sizeOf27
 v24 := Tryz.zeroValue27
 i9 := by kernel_rfl
 iz := by kernel_rfl
 is := of_decide_eq_true (by kernel_rfl)
 ic := by kernel_rfl }
noncomputable abbrev z13 : Ent := insE 52 tyD 32
theorem z4p : z13.Ok Tryz.prog := zNd Tryz.insL52 (by kernel_rfl) Tryz.func52 (by decide +kernel) rfl (by kernel_rfl) (by kernel_rfl) rfl rfl rfl
def z95 : List (Nat × Hint) := [(3, .join [(0, ⟨[], [(2, 0, .bool)], []⟩)])]
noncomputable def z27 : Ent := mkE tysC 107 [z0t, z26] z95 Tryz.f107 [(.vw, (.pair (.int .i64) (.pair tyR .unit)))] true .bool
theorem z8f : z27.Ok Tryz.prog := z0A envC (z03 z4C (z03 z6c z09)) Tryz.func107 (by decide +kernel) (by kernel_rfl)
def z1n : List (Nat × Hint) := [(26, .loop ⟨[0, 1, 7], [(8, 0, (.int .i64))], []⟩ [(1, ⟨[], [(4, 0, (.int .i64))], []⟩), (2, ⟨[], [], []⟩)])]
noncomputable def z0I : Ent := mkE tysC 109 [z27] z1n Tryz.f109 [(.vw, (.lst false (.pair (.int .i64) (.pair tyR .unit)))), (.vw, (.fn 107 .unit))] true (.int .i64)
theorem z1j : z0I.Ok Tryz.prog := z0A envC (z03 z8f z09) Tryz.func109 (by decide +kernel) (by kernel_rfl)
def z1a : List (Nat × Hint) := []
noncomputable def z0F : Ent := mkE tysC 85 [z0I] z1a Tryz.f85 [(.vw, (.lst false (.pair (.int .i64) (.pair tyR .unit)))), (.vw, (.fn 107 .unit))] true .bool
theorem z1Z : z0F.Ok Tryz.prog := z0A envC (z03 z1j z09) Tryz.func85 (by decide +kernel) (by kernel_rfl)
def zAe : List (Nat × Hint) := [(3, .join [(0, ⟨[], [(2, 0, .bool)], []⟩)])]
noncomputable def z3N : Ent := mkE tysC 84 [z0F] zAe Tryz.f84 [(.vw, (.lst false (.pair (.int .i64) (.pair tyR .unit))))] true .bool
theorem z9z : z3N.Ok Tryz.prog := z0A envC (z03 z1Z z09) Tryz.func84 (by decide +kernel) (by kernel_rfl)
def zH7 : List (Nat × Hint) := [(7, .join [(0, ⟨[], [(4, 0, .bool)], []⟩)])]
noncomputable def z5F : Ent := mkE tysC 87 [z3O] zH7 Tryz.f87 [(.vw, tyZf), (.vw, (.pair (.int .i64) (.pair tyR .unit)))] true .bool
theorem zFe : z5F.Ok Tryz.prog := z0A envC (z03 z8V z09) Tryz.func87 (by decide +kernel) (by kernel_rfl)
def zFG : List (Nat × Hint) := []
noncomputable def z44 : Ent := mkE tysC 86 [z5F] zFG Tryz.f86 [(.vw, (.pair (.int .i64) (.pair tyR .unit))), (.vw, (.ptr tyZf))] true .bool
theorem zDx : z44.Ok Tryz.prog := z0A envC (z03 zFe z09) Tryz.func86 (by decide +kernel) (by kernel_rfl)
def z2X : List (Nat × Hint) := [(26, .loop ⟨[0, 1, 7], [(8, 0, (.int .i64))], []⟩ [(1, ⟨[], [(4, 0, (.int .i64))], []⟩), (2, ⟨[], [], []⟩)])]
noncomputable def z0T : Ent := mkE tysC 109 [z44] z2X Tryz.f109 [(.vw, (.lst false (.pair (.int .i64) (.pair tyR .unit)))), (.vw, (.fn 86 (.pair (.ptr tyZf) .unit)))] true (.int .i64)
theorem z2T : z0T.Ok Tryz.prog := z0A envC (z03 zDx z09) Tryz.func109 (by decide +kernel) (by kernel_rfl)
def z2B : List (Nat × Hint) := []
noncomputable def z0O : Ent := mkE tysC 85 [z0T] z2B Tryz.f85 [(.vw, (.lst false (.pair (.int .i64) (.pair tyR .unit)))), (.vw, (.fn 86 (.pair (.ptr tyZf) .unit)))] true .bool
theorem z1w : z0O.Ok Tryz.prog := z0A envC (z03 z2T z09) Tryz.func85 (by decide +kernel) (by kernel_rfl)
def zBp : List (Nat × Hint) := [(3, .join [(0, ⟨[], [(3, 0, .bool)], []⟩)])]
noncomputable def z1S : Ent := mkE tysC 111 [] zBp Tryz.f111 [(.vw, tyR), (.vw, (.ptr tyR))] true .bool
theorem z6x : z1S.Ok Tryz.prog := z0A envC z09 Tryz.func111 (by decide +kernel) (by kernel_rfl)
def z2I : List (Nat × Hint) := [(26, .loop ⟨[0, 1, 7], [(8, 0, (.int .i64))], []⟩ [(1, ⟨[], [(4, 0, (.int .i64))], []⟩), (2, ⟨[], [], []⟩)])]
noncomputable def z0E : Ent := mkE tysC 129 [z1S] z2I Tryz.f129 [(.vw, tyRf), (.vw, (.fn 111 (.pair (.ptr tyR) .unit)))] true (.int .i64)
theorem z2E : z0E.Ok Tryz.prog := z0A envC (z03 z6x z09) Tryz.func129 (by decide +kernel) (by kernel_rfl)
def z2C : List (Nat × Hint) := [(122, .loop ⟨[1], [(0, 0, tyRt), (5, 0, (.int .i64)), (6, 0, (.int .i64))], []⟩ [(2, ⟨[], [(0, 0, tyRt), (5, 0, (.int .i64))], []⟩)]), (489, .join [(0, ⟨[1, 6], [(0, 0, tyRt), (5, 0, (.int .i64))], []⟩)]), (0, .frz [4])]
noncomputable def z08 : Ent := mkE tysC 110 [z0E, z1S] z2C Tryz.f110 [(.own, tyRt), (.vw, (.fn 111 (.pair (.ptr tyR) .unit)))] true tyRt
theorem z1x : z08.Ok Tryz.prog := z0A envC (z03 z2E (z03 z6x z09)) Tryz.func110 (by decide +kernel) (by kernel_rfl)
def z17 : List (Nat × Hint) := [(31, .join [(0, ⟨[], [(6, 0, (.int .i64)), (7, 0, .bool)], []⟩)]), (60, .loop ⟨[0, 2, 4, 8], [(9, 0, (.int .i64)), (10, 0, (.int .i64))], []⟩ [(2, ⟨[0, 2, 4, 8], [(9, 0, (.int .i64))], []⟩)])]
noncomputable def z07 : Ent := mkE tysC 130 [z0s] z17 Tryz.f130 [(.vw, tyRf), (.vw, tyR), (.vw, (.fn 131 .unit))] false (.pair (.int .i64) (.pair .bool .unit))
theorem z15 : z07.Ok Tryz.prog := z0A envC (z03 z5W z09) Tryz.func130 (by decide +kernel) (by kernel_rfl)
def Tryz.insR132 : Go.Shelf.Ren := ⟨fun | 22 => 132 | 29 => 159 | 30 => 160 | n => n, fun | 0 => 0 | 3 => 3 | 4 => 4 | 9 => 91 | 24 => 24 | n => n, fun n => n⟩
noncomputable def Tryz.insI132 : TypeInfo := (Tryz.prog.info? 91).getD default
noncomputable def Tryz.insZ132 : Value := Tryz.insI132.zero.getD default
theorem Tryz.insL132 : InsL Tryz.prog Tryz.insR132 Tryz.insI132 Tryz.insZ132 := {
 mixed := by kernel_rfl
 f22 := ⟨Tryz.f132.name, by kernel_rfl, Tryz.func132.trans (congrArg some (by kernel_rfl))⟩
 f29 := fun args w => run_callFunc_extern Tryz.func159 (by kernel_rfl) (by kernel_rfl) (by kernel_rfl) (by kernel_rfl) args w
 t0 := Tryz.underlying0
 a0 := Tryz.isAgg0
 z0 := Tryz.sizeOf0
 v0 := Tryz.zeroValue0
 t3 := Tryz.underlying3
 a3 := Tryz.isAgg3
 z3 := Tryz.sizeOf3
 v3 := Tryz.zeroValue3
 t4 := Tryz.underlying4
 a4 := Tryz.isAgg4
 z4 := Tryz.sizeOf4
 v4 := Tryz.zeroValue4
 z9 := Tryz.sizeOf91
 t24 := Tryz.underlying24
 a24 := Tryz.isAgg24
 z24 := Tryz.sizeOf24
 v24 := Tryz.zeroValue24
 i9 := by kernel_rfl
 iz := by kernel_rfl
 is := of_decide_eq_true (by kernel_rfl)
 ic := by kernel_rfl }
noncomputable abbrev z1F : Ent := insE 132 tyR 48
theorem z4G : z1F.Ok Tryz.prog := zNd Tryz.insL132 (by kernel_rfl) Tryz.func132 (by decide +kernel) rfl (by kernel_rfl) (by kernel_rfl) rfl rfl rfl
def zMP : List (Nat × Hint) := [(0, .frz [18, 4])]
noncomputable def z5Z : Ent := mkE tysC 112 [z07, z1F] zMP Tryz.f112 [(.own, tyRt), (.vw, tyR)] true tyRt
theorem zKk : z5Z.Ok Tryz.prog := z0A envC (z03 z15 (z03 z4G z09)) Tryz.func112 (by decide +kernel) (by kernel_rfl)
def zFH : List (Nat × Hint) := [(58, .loop ⟨[11, 12], [(5, 0, tyRt), (13, 0, (.int .i64))], []⟩ [(2, ⟨[], [(5, 0, tyRt)], []⟩)]), (467, .join [(0, ⟨[11, 12, 13], [(5, 0, tyRt)], []⟩)]), (7474, .join [(0, ⟨[5, 7, 11, 12, 13], [(24, 0, .bool)], []⟩)]), (0, .frz [4])]
noncomputable def z4f : Ent := mkE tysC 88 [z0H, z08, z5Z] zFH Tryz.f88 [(.vw, tyRf), (.vw, (.lst false (.pair (.int .i64) (.pair tyR .unit))))] true tyRt
theorem zDy : z4f.Ok Tryz.prog := z0A envC (z03 z1H (z03 z1x (z03 zKk z09))) Tryz.func88 (by decide +kernel) (by kernel_rfl)
def zFI : List (Nat × Hint) := [(58, .loop ⟨[1, 10], [(5, 0, tyRt), (11, 0, (.int .i64))], []⟩ [(2, ⟨[], [(5, 0, tyRt)], []⟩)]), (467, .join [(0, ⟨[1, 10, 11], [(5, 0, tyRt)], []⟩)]), (0, .frz [4])]
noncomputable def z4g : Ent := mkE tysC 90 [z0H, z29] zFI Tryz.f90 [(.vw, tyRf), (.vw, (.int .i64))] true tyRt
theorem zDz : z4g.Ok Tryz.prog := z0A envC (z03 z1H (z03 z6d z09)) Tryz.func90 (by decide +kernel) (by kernel_rfl)
def zIo : List (Nat × Hint) := [(124, .join [(0, ⟨[4, 6], [(25, 0, .bool)], []⟩)])]
noncomputable def z4z : Ent := mkE tysC 53 [z3N, z0O, z4f, z3h, z4g] zIo Tryz.f53 [(.vw, tyZf), (.vw, (.lst false (.pair (.int .i64) (.pair tyR .unit))))] false (.pair tyZt (.pair (.int .i64) .unit))
theorem zHR : z4z.Ok Tryz.prog := z0A envC (z03 z9z (z03 z1w (z03 zDy (z03 z8n (z03 zDz z09))))) Tryz.func53 (by decide +kernel) (by kernel_rfl)
def z94 : List (Nat × Hint) := [(127, .join [(0, ⟨[3, 4, 5, 8, 11], [(7, 2, (.pair tyZt (.pair (.lst true tyD) (.pair (.int .i64) .unit))))], []⟩)]), (31, .join [(0, ⟨[3, 4, 5, 8], [(7, 2, (.pair tyZt (.pair (.lst true tyD) (.pair (.int .i64) .unit))))], []⟩), (1, ⟨[], [(4, 2, (.pair tyZt (.pair (.lst true tyD) (.pair (.int .i64) .unit)))), (5, 2, tyD), (6, 0, .bool)], []⟩)]), (499, .join [(0, ⟨[3, 4, 5, 7, 8, 9], [(49, 0, .bool)], []⟩)]), (3995, .join [(0, ⟨[2, 3, 4, 5, 7, 8, 9], [(49, 0, .bool)], []⟩)]), (998, .join [(0, ⟨[2, 3, 4, 5, 7, 8, 9], [(49, 0, .bool)], []⟩)]), (124, .join [(0, ⟨[2, 3, 4, 5, 7, 8, 9], [(30, 0, .bool)], []⟩)]), (0, .frz [82])]
noncomputable def z25 : Ent := mkE tysC 30 [z4J, z3S, z2q, z13, z4z] z94 Tryz.f30 [(.vw, (.pair tyZf (.pair (.lst false tyD) (.pair (.int .i64) .unit)))), (.vw, (.pair (.int .i64) (.pair (.int .i64) (.pair (.lst false (.pair (.int .i64) (.pair tyR .unit))) .unit))))] false (.pair (.pair tyZt (.pair (.lst true tyD) (.pair (.int .i64) .unit))) (.pair tyD (.pair .bool .unit)))
theorem z8e : z25.Ok Tryz.prog := z0A envC (z03 zC7 (z03 zA1 (z03 z8d (z03 z4p (z03 zHR z09))))) Tryz.func30 (by decide +kernel) (by kernel_rfl)
def zDN : List (Nat × Hint) := []
noncomputable def z2s : Ent := mkE tysC 91 [] zDN Tryz.f91 [(.vw, tyR), (.vw, tyR)] true .bool
theorem z7U : z2s.Ok Tryz.prog := z0A envC z09 Tryz.func91 (by decide +kernel) (by kernel_rfl)
def zBu : List (Nat × Hint) := [(58, .loop ⟨[0, 1], [(5, 0, (.int .i64))], []⟩ [(1, ⟨[4], [], []⟩), (2, ⟨[], [], []⟩)])]
noncomputable def z3v : Ent := mkE tysC 54 [z2s] zBu Tryz.f54 [(.vw, tyRf), (.vw, tyRf)] true .bool
theorem zB2 : z3v.Ok Tryz.prog := z0A envC (z03 z7U z09) Tryz.func54 (by decide +kernel) (by kernel_rfl)
def zHA : List (Nat × Hint) := []
noncomputable def z5H : Ent := mkE tysC 31 [z3v] zHA Tryz.f31 [(.vw, tyZf), (.vw, tyZf)] true .bool
theorem zFg : z5H.Ok Tryz.prog := z0A envC (z03 zB2 z09) Tryz.func31 (by decide +kernel) (by kernel_rfl)
def zH9 : List (Nat × Hint) := []
noncomputable def z5G : Ent := mkE tysC 23 [] zH9 Tryz.f23 [(.vw, tyD), (.vw, tyD)] true .bool
theorem zFf : z5G.Ok Tryz.prog := z0A envC z09 Tryz.func23 (by decide +kernel) (by kernel_rfl)
def zFO : List (Nat × Hint) := [(58, .loop ⟨[0, 1], [(5, 0, (.int .i64))], []⟩ [(1, ⟨[4], [], []⟩), (2, ⟨[], [], []⟩)])]
noncomputable def z1c : Ent := mkE tysC 10 [z5G] zFO Tryz.f10 [(.vw, (.lst false tyD)), (.vw, (.lst false tyD))] true .bool
theorem z7y : z1c.Ok Tryz.prog := z0A envC (z03 zFf z09) Tryz.func10 (by decide +kernel) (by kernel_rfl)
def zBt : List (Nat × Hint) := []
noncomputable def z1k : Ent := mkE tysC 9 [z5H, z1c] zBt Tryz.f9 [(.vw, (.pair tyZf (.pair (.lst false tyD) (.pair (.int .i64) .unit)))), (.vw, (.pair tyZf (.pair (.lst false tyD) (.pair (.int .i64) .unit))))] true .bool
theorem zB1 : z1k.Ok Tryz.prog := z0A envC (z03 zFg (z03 z7y z09)) Tryz.func9 (by decide +kernel) (by kernel_rfl)
def zDM : List (Nat × Hint) := []
noncomputable def z3T : Ent := mkE tysC 69 [z2s] zDM Tryz.f69 [(.vw, (.pair (.int .i64) (.pair tyR .unit))), (.vw, (.pair (.int .i64) (.pair tyR .unit)))] true .bool
theorem zCB : z3T.Ok Tryz.prog := z0A envC (z03 z7U z09) Tryz.func69 (by decide +kernel) (by kernel_rfl)
def zBs : List (Nat × Hint) := [(58, .loop ⟨[0, 1], [(5, 0, (.int .i64))], []⟩ [(1, ⟨[4], [], []⟩), (2, ⟨[], [], []⟩)])]
noncomputable def z3u : Ent := mkE tysC 43 [z3T] zBs Tryz.f43 [(.vw, (.lst false (.pair (.int .i64) (.pair tyR .unit)))), (.vw, (.lst false (.pair (.int .i64) (.pair tyR .unit))))] true .bool
theorem zB0 : z3u.Ok Tryz.prog := z0A envC (z03 zCB z09) Tryz.func43 (by decide +kernel) (by kernel_rfl)
def zFN : List (Nat × Hint) := []
noncomputable def z45 : Ent := mkE tysC 24 [z3u] zFN Tryz.f24 [(.vw, (.pair (.int .i64) (.pair (.int .i64) (.pair (.lst false (.pair (.int .i64) (.pair tyR .unit))) .unit)))), (.vw, (.pair (.int .i64) (.pair (.int .i64) (.pair (.lst false (.pair (.int .i64) (.pair tyR .unit))) .unit))))] true .bool
theorem zE3 : z45.Ok Tryz.prog := z0A envC (z03 zB0 z09) Tryz.func24 (by decide +kernel) (by kernel_rfl)
def zDP : List (Nat × Hint) := [(60, .loop ⟨[], [(0, 0, (.int .i64)), (3, 0, .str)], []⟩ [(2, ⟨[], [(3, 0, .str)], []⟩)])]
noncomputable def z0k : Ent := mkE tysC 55 [] zDP Tryz.f55 [(.vw, (.int .i64))] true .str
theorem z65 : z0k.Ok Tryz.prog := z0A envC z09 Tryz.func55 (by decide +kernel) (by kernel_rfl)
def z9p : List (Nat × Hint) := [(26, .loop ⟨[], [(0, 0, tyRt), (1, 0, (.int .i64)), (5, 0, (.int .i64))], []⟩ [(2, ⟨[], [(0, 0, tyRt), (1, 0, (.int .i64))], []⟩)])]
noncomputable def z3A : Ent := mkE tysC 56 [z0k] z9p Tryz.f56 [(.io, tyRt), (.vw, (.int .i64))] true (.int .i64)
theorem z9K : z3A.Ok Tryz.prog := z0A envC (z03 z65 z09) Tryz.func56 (by decide +kernel) (by kernel_rfl)
def zDQ : List (Nat × Hint) := []
noncomputable def z4M : Ent := mkE tysC 33 [z3A] zDQ Tryz.f33 [(.io, tyZt), (.vw, (.int .i64))] true (.int .i64)
theorem zCD : z4M.Ok Tryz.prog := z0A envC (z03 z9K z09) Tryz.func33 (by decide +kernel) (by kernel_rfl)
def zBw : List (Nat × Hint) := [(26, .loop ⟨[], [(0, 0, (.lst true tyD)), (1, 0, (.int .i64)), (5, 0, (.int .i64))], []⟩ [(2, ⟨[], [(0, 0, (.lst true tyD)), (1, 0, (.int .i64))], []⟩)])]
noncomputable def z2c : Ent := mkE tysC 14 [] zBw Tryz.f14 [(.io, (.lst true tyD)), (.vw, (.int .i64))] true (.int .i64)
theorem z70 : z2c.Ok Tryz.prog := z0A envC z09 Tryz.func14 (by decide +kernel) (by kernel_rfl)
def z9o : List (Nat × Hint) := []
noncomputable def z39 : Ent := mkE tysC 13 [z4M, z2c] z9o Tryz.f13 [(.io, (.pair tyZt (.pair (.lst true tyD) (.pair (.int .i64) .unit)))), (.vw, (.int .i64))] true (.int .i64)
theorem z9J : z39.Ok Tryz.prog := z0A envC (z03 zCD (z03 z70 z09)) Tryz.func13 (by decide +kernel) (by kernel_rfl)
def z9n : List (Nat × Hint) := [(26, .loop ⟨[], [(0, 0, (.lst true (.pair (.int .i64) (.pair tyR .unit)))), (1, 0, (.int .i64)), (5, 0, (.int .i64))], []⟩ [(2, ⟨[], [(0, 0, (.lst true (.pair (.int .i64) (.pair tyR .unit)))), (1, 0, (.int .i64))], []⟩)])]
noncomputable def z2b : Ent := mkE tysC 32 [z0k] z9n Tryz.f32 [(.io, (.lst true (.pair (.int .i64) (.pair tyR .unit)))), (.vw, (.int .i64))] true (.int .i64)
theorem z9I : z2b.Ok Tryz.prog := z0A envC (z03 z65 z09) Tryz.func32 (by decide +kernel) (by kernel_rfl)
def z9m : List (Nat × Hint) := [(26, .loop ⟨[0], [(1, 0, (.int .i64)), (5, 0, (.int .i64))], []⟩ [(1, ⟨[], [(4, 0, (.int .i64))], []⟩), (2, ⟨[], [(1, 0, (.int .i64))], []⟩)])]
noncomputable def z38 : Ent := mkE tysC 57 [z0k] z9m Tryz.f57 [(.vw, tyRf), (.vw, (.int .i64))] true (.int .i64)
theorem z9H : z38.Ok Tryz.prog := z0A envC (z03 z65 z09) Tryz.func57 (by decide +kernel) (by kernel_rfl)
def zDO : List (Nat × Hint) := []
noncomputable def z4L : Ent := mkE tysC 34 [z38] zDO Tryz.f34 [(.vw, tyZf), (.vw, (.int .i64))] true (.int .i64)
theorem zCC : z4L.Ok Tryz.prog := z0A envC (z03 z9H z09) Tryz.func34 (by decide +kernel) (by kernel_rfl)
def zBv : List (Nat × Hint) := [(26, .loop ⟨[0], [(1, 0, (.int .i64)), (5, 0, (.int .i64))], []⟩ [(1, ⟨[], [(4, 0, (.int .i64))], []⟩), (2, ⟨[], [(1, 0, (.int .i64))], []⟩)])]
noncomputable def z1T : Ent := mkE tysC 16 [] zBv Tryz.f16 [(.vw, (.lst false tyD)), (.vw, (.int .i64))] true (.int .i64)
theorem z6z : z1T.Ok Tryz.prog := z0A envC z09 Tryz.func16 (by decide +kernel) (by kernel_rfl)
def z9l : List (Nat × Hint) := []
noncomputable def z1g : Ent := mkE tysC 15 [z4L, z1T] z9l Tryz.f15 [(.vw, (.pair tyZf (.pair (.lst false tyD) (.pair (.int .i64) .unit)))), (.vw, (.int .i64))] true (.int .i64)
theorem z9G : z1g.Ok Tryz.prog := z0A envC (z03 zCC (z03 z6z z09)) Tryz.func15 (by decide +kernel) (by kernel_rfl)
def zDR : List (Nat × Hint) := [(122, .loop ⟨[0], [(1, 0, (.int .i64)), (5, 0, (.int .i64))], []⟩ [(1, ⟨[], [(4, 0, (.int .i64))], []⟩), (2, ⟨[], [(1, 0, (.int .i64))], []⟩)])]
noncomputable def z4N : Ent := mkE tysC 5 [z47] zDR Tryz.f5 [(.vw, (.lst false (.pair (.int .i64) (.pair (.int .i64) (.pair (.lst false (.pair (.int .i64) (.pair tyR .unit))) .unit))))), (.vw, (.int .i64))] true (.int .i64)
theorem zCE : z4N.Ok Tryz.prog := z0A envC (z03 zE4 z09) Tryz.func5 (by decide +kernel) (by kernel_rfl)
def zDU : List (Nat × Hint) := [(58, .loop ⟨[0], [(3, 0, (.lst true (.pair (.int .i64) (.pair (.int .i64) (.pair (.lst true (.pair (.int .i64) (.pair tyR .unit))) .unit))))), (4, 0, (.int .i64))], []⟩ [(2, ⟨[], [(3, 0, (.lst true (.pair (.int .i64) (.pair (.int .i64) (.pair (.lst true (.pair (.int .i64) (.pair tyR .unit))) .unit)))))], []⟩)]), (0, .frz [2])]
noncomputable def z2N : Ent := mkE tysC 7 [z48] zDU Tryz.f7 [(.vw, (.lst false (.pair (.int .i64) (.pair (.int .i64) (.pair (.lst false (.pair (.int .i64) (.pair tyR .unit))) .unit)))))] true (.lst true (.pair (.int .i64) (.pair (.int .i64) (.pair (.lst true (.pair (.int .i64) (.pair tyR .unit))) .unit))))
theorem zCH : z2N.Ok Tryz.prog := z0A envC (z03 zE5 z09) Tryz.func7 (by decide +kernel) (by kernel_rfl)
def zFR : List (Nat × Hint) := []
noncomputable def z4k : Ent := mkE tysC 44 [z3k] zFR Tryz.f44 [(.vw, .str)] false (.pair tyZt (.pair .bool .unit))
theorem zE6 : z4k.Ok Tryz.prog := z0A envC (z03 z8o z09) Tryz.func44 (by decide +kernel) (by kernel_rfl)
def zAl : List (Nat × Hint) := []
noncomputable def z3X : Ent := mkE tysC 26 [z4k] zAl Tryz.f26 [(.vw, .str)] false (.pair (.pair tyZt (.pair (.lst true tyD) (.pair (.int .i64) .unit))) (.pair .bool .unit))
theorem zA4 : z3X.Ok Tryz.prog := z0A envC (z03 zE6 z09) Tryz.func26 (by decide +kernel) (by kernel_rfl)
def zBz : List (Nat × Hint) := [(250, .loop ⟨[4, 28, 29], [(7, 2, (.pair tyZt (.pair (.lst true tyD) (.pair (.int .i64) .unit)))), (9, 0, (.lst true tyD)), (30, 0, (.int .i64))], []⟩ [(2, ⟨[4], [(7, 2, (.pair tyZt (.pair (.lst true tyD) (.pair (.int .i64) .unit)))), (9, 0, (.lst true tyD))], []⟩)]), (32051, .join [(0, ⟨[4, 9, 13, 28, 29, 30], [(7, 2, (.pair tyZt (.pair (.lst true tyD) (.pair (.int .i64) .unit))))], []⟩)]), (14, .join [(0, ⟨[1, 4, 7], [(26, 0, .bool)], []⟩)]), (0, .frz [5])]
noncomputable def z3y : Ent := mkE tysC 6 [z3X, z4V, z49] zBz Tryz.f6 [(.vw, .str), (.vw, (.lst false (.pair (.int .i64) (.pair (.int .i64) (.pair (.lst false (.pair (.int .i64) (.pair tyR .unit))) .unit)))))] false (.pair (.pair tyZt (.pair (.lst true tyD) (.pair (.int .i64) .unit))) (.pair (.lst true tyD) (.pair .bool .unit)))
theorem zB6 : z3y.Ok Tryz.prog := z0A envC (z03 zA4 (z03 zFi (z03 zE7 z09))) Tryz.func6 (by decide +kernel) (by kernel_rfl)
def zFF : List (Nat × Hint) := []
noncomputable def z4e : Ent := mkE tysC 48 [z4I] zFF Tryz.f48 [(.vw, .str)] false (.pair tyZt (.pair .bool .unit))
theorem zDw : z4e.Ok Tryz.prog := z0A envC (z03 zC3 z09) Tryz.func48 (by decide +kernel) (by kernel_rfl)
def zAd : List (Nat × Hint) := []
noncomputable def z3L : Ent := mkE tysC 29 [z4e] zAd Tryz.f29 [(.vw, .str)] false (.pair (.pair tyZt (.pair (.lst true tyD) (.pair (.int .i64) .unit))) (.pair .bool .unit))
theorem z9y : z3L.Ok Tryz.prog := z0A envC (z03 zDw z09) Tryz.func29 (by decide +kernel) (by kernel_rfl)
def zBn : List (Nat × Hint) := [(250, .loop ⟨[4, 29, 30], [(7, 2, (.pair tyZt (.pair (.lst true tyD) (.pair (.int .i64) .unit)))), (9, 0, (.lst true tyD)), (31, 0, (.int .i64))], []⟩ [(2, ⟨[4], [(7, 2, (.pair tyZt (.pair (.lst true tyD) (.pair (.int .i64) .unit)))), (9, 0, (.lst true tyD))], []⟩)]), (32051, .join [(0, ⟨[4, 9, 13, 29, 30, 31], [(7, 2, (.pair tyZt (.pair (.lst true tyD) (.pair (.int .i64) .unit))))], []⟩)]), (14, .join [(0, ⟨[1, 4, 7], [(26, 0, .bool)], []⟩)]), (0, .frz [5])]
noncomputable def z33 : Ent := mkE tysC 8 [z3L, z25] zBn Tryz.f8 [(.vw, .str), (.vw, (.lst false (.pair (.int .i64) (.pair (.int .i64) (.pair (.lst false (.pair (.int .i64) (.pair tyR .unit))) .unit)))))] false (.pair (.pair tyZt (.pair (.lst true tyD) (.pair (.int .i64) .unit))) (.pair (.lst true tyD) (.pair .bool .unit)))
theorem zAw : z33.Ok Tryz.prog := z0A envC (z03 z9y (z03 z8e z09)) Tryz.func8 (by decide +kernel) (by kernel_rfl)
def zDL : List (Nat × Hint) := [(58, .loop ⟨[0, 1], [(5, 0, (.int .i64))], []⟩ [(1, ⟨[4], [], []⟩), (2, ⟨[], [], []⟩)])]
noncomputable def z4K : Ent := mkE tysC 11 [z45] zDL Tryz.f11 [(.vw, (.lst false (.pair (.int .i64) (.pair (.int .i64) (.pair (.lst false (.pair (.int .i64) (.pair tyR .unit))) .unit))))), (.vw, (.lst false (.pair (.int .i64) (.pair (.int .i64) (.pair (.lst false (.pair (.int .i64) (.pair tyR .unit))) .unit)))))] true .bool
theorem zCA : z4K.Ok Tryz.prog := z0A envC (z03 zE3 z09) Tryz.func11 (by decide +kernel) (by kernel_rfl)
def zAi : List (Nat × Hint) := [(26, .loop ⟨[], [(0, 0, (.lst true (.pair (.int .i64) (.pair (.int .i64) (.pair (.lst true (.pair (.int .i64) (.pair tyR .unit))) .unit))))), (1, 0, (.int .i64)), (5, 0, (.int .i64))], []⟩ [(2, ⟨[], [(0, 0, (.lst true (.pair (.int .i64) (.pair (.int .i64) (.pair (.lst true (.pair (.int .i64) (.pair tyR .unit))) .unit))))), (1, 0, (.int .i64))], []⟩)])]
noncomputable def z3U : Ent := mkE tysC 12 [z2b] zAi Tryz.f12 [(.io, (.lst true (.pair (.int .i64) (.pair (.int .i64) (.pair (.lst true (.pair (.int .i64) (.pair tyR .unit))) .unit))))), (.vw, (.int .i64))] true (.int .i64)
theorem zA2 : z3U.Ok Tryz.prog := z0A envC (z03 z9I z09) Tryz.func12 (by decide +kernel) (by kernel_rfl)
def z7D : List (Nat × Hint) := [(33554430, .join [(0, ⟨[10, 11, 14], [(127, 0, .bool)], []⟩)]), (16382, .join [(0, ⟨[0, 1, 6, 7, 8, 10, 11], [(85, 0, .bool)], []⟩)]), (1022, .join [(0, ⟨[0, 1, 6, 7, 8, 9, 10, 11, 12], [(58, 0, .bool)], []⟩)])]
noncomputable def z3i : Ent := mkE tysC 3 [z4N, z2N, z3y, z33, z1k, z1c, z4K, z3U, z39, z2c, z1g, z1T] z7D Tryz.f3 [(.vw, .str), (.vw, (.lst false (.pair (.int .i64) (.pair (.int .i64) (.pair (.lst false (.pair (.int .i64) (.pair tyR .unit))) .unit)))))] true .bool
theorem z6y : z3i.Ok Tryz.prog := z0A envC (z03 zCE (z03 zCH (z03 zB6 (z03 zAw (z03 zB1 (z03 z7y (z03 zCA (z03 zA2 (z03 z9J (z03 z70 (z03 z9G (z03 z6z z09)))))))))))) Tryz.func3 (by decide +kernel) (by kernel_rfl)
end Go.Proofs.YtllbponcjpcbnaaGreatDoor
