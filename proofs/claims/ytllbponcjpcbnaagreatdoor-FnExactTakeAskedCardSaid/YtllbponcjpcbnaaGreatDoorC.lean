/- The functions that the law reaches, each as a program of expressions. -/
import Derived.Test.YtllbponcjpcbnaaGreatDoorLb1
import Derived.Test.YtllbponcjpcbnaaGreatDoorProg
import Derived.KernelRfl
import Derived.Test.YtllbponcjpcbnaaGreatDoorLays
set_option linter.unusedSectionVars false
set_option linter.unusedVariables false
set_option linter.unusedSimpArgs false
namespace Go.Proofs.YtllbponcjpcbnaaGreatDoor
open Go Go.Own
set_option maxRecDepth 100000
instance glbI : Glb := Glb.at [(0, zPY .i64), (2, zMm), (3, zMm), (1, zPX (Lib.pow10Tab.map fun z => Value.int .u64 z).toArray)]
theorem zDX : ∀ h V, Glb.ok h V → ∃ m arr ty fz, h[Tryz.l146_ren.g 1]? = some (.cells arr ty fz) ∧ arr[0]? = some (.int .i64 m) :=
 fun _ _ h => zNz (h (0, zPY .i64) (by simp)).2
theorem zRN : ∀ h V, Glb.ok h V → ∃ ev arr ty fz, h[Tryz.l172_ren.g 15]? = some (.cells arr ty fz) ∧ arr[0]? = some ev ∧ (ev = .nilIface ∨ ∃ te pe, ev = .iface te pe) :=
 fun _ _ h => zJT (h (2, zMm) (by simp)).2
theorem zRM : ∀ h V, Glb.ok h V → ∃ ev arr ty fz, h[Tryz.l172_ren.g 16]? = some (.cells arr ty fz) ∧ arr[0]? = some ev ∧ (ev = .nilIface ∨ ∃ te pe, ev = .iface te pe) :=
 fun _ _ h => zJT (h (3, zMm) (by simp)).2
theorem zRL : ∀ h V, Glb.ok h V → ∃ ty fz, h[1]? = some (.cells (Lib.pow10Tab.map fun z => Value.int .u64 z).toArray ty fz) :=
 fun _ _ h => zNy (h (1, zPX (Lib.pow10Tab.map fun z => Value.int .u64 z).toArray) (by simp)).2
abbrev tyR : T := .pair .str (.pair (.int .i64) (.pair (.int .i64) (.pair .str .unit)))
abbrev tyD : T := .pair (.int .i64) (.pair (.int .i64) (.pair (.int .i64) (.pair (.int .i64) .unit)))
abbrev tyRf : T := .lst false tyR
abbrev tyRt : T := .lst true tyR
abbrev tyZf : T := .pair .str (.pair (.int .i64) (.pair tyRf .unit))
abbrev tyZt : T := .pair .str (.pair (.int .i64) (.pair tyRt .unit))
def tysC : List (TypeId × T × Nat) := [(3, (.int .i64), 0), (4, .bool, 0), (5, (.int .u8), 0), (9, .str, 0), (22, (.lst true (.pair (.int .i64) (.pair (.int .i64) (.pair (.lst true (.pair (.int .i64) (.pair tyR .unit))) .unit)))), 40), (24, tyRt, 48), (26, tyZt, 0), (27, (.lst true tyD), 32), (29, (.pair tyZt (.pair (.lst true tyD) (.pair (.int .i64) .unit))), 0), (32, (.lst true (.pair (.int .i64) (.pair (.int .i64) (.pair (.lst true (.pair (.int .i64) (.pair tyR .unit))) .unit)))), 40), (41, tyRt, 48), (43, tyZt, 0), (44, (.lst true tyD), 32), (46, (.pair tyZt (.pair (.lst true tyD) (.pair (.int .i64) .unit))), 0), (47, (.lst true (.pair (.int .i64) (.pair tyR .unit))), 56), (49, (.pair (.int .i64) (.pair (.int .i64) (.pair (.lst true (.pair (.int .i64) (.pair tyR .unit))) .unit))), 0), (53, tyD, 0), (57, (.lst true (.pair (.int .i64) (.pair tyR .unit))), 56), (59, (.pair (.int .i64) (.pair (.int .i64) (.pair (.lst true (.pair (.int .i64) (.pair tyR .unit))) .unit))), 0), (91, tyR, 0), (93, (.pair (.int .i64) (.pair tyR .unit)), 0), (98, tyR, 0), (100, (.pair (.int .i64) (.pair tyR .unit)), 0), (106, tyD, 0), (126, (.lst true (.int .u8)), 1), (130, (.lst true .str), 16), (139, (.int .u64), 0), (173, .err, 0), (177, (.lst true (.int .i64)), 8)]
theorem envC : ∀ sig n fx fr, EnvOk Tryz.prog ⟨tyOf tysC, ebOf tysC, sig, n, fx, fr⟩ := by
 refine EnvOk.ofL (fun sig n fx fr t ht => ?_) (by kernel_rfl)
 simp only [tysC, List.map_cons, List.map_nil, List.mem_cons] at ht
 rcases ht with rfl | ht
 ·exact ⟨Tryz.underlying3, rfl, by kernel_rfl, by kernel_rfl⟩
 rcases ht with rfl | ht
 ·exact ⟨Tryz.underlying4, rfl, by kernel_rfl, by kernel_rfl⟩
 rcases ht with rfl | ht
 ·exact ⟨Tryz.underlying5, rfl, by kernel_rfl, by kernel_rfl⟩
 rcases ht with rfl | ht
 ·exact ⟨Tryz.underlying9, rfl, by kernel_rfl, by kernel_rfl⟩
 rcases ht with rfl | ht
 ·exact ⟨⟨rfl, _, Tryz.underlying22, rfl, rfl, by kernel_rfl⟩, rfl, by kernel_rfl, by kernel_rfl⟩
 rcases ht with rfl | ht
 ·exact ⟨⟨rfl, _, Tryz.underlying24, rfl, rfl, by kernel_rfl⟩, rfl, by kernel_rfl, by kernel_rfl⟩
 rcases ht with rfl | ht
 ·exact ⟨⟨_, Tryz.underlying26, rfl, rfl, rfl, rfl, rfl, rfl, rfl, rfl, rfl, trivial⟩, rfl, by kernel_rfl, by kernel_rfl⟩
 rcases ht with rfl | ht
 ·exact ⟨⟨rfl, _, Tryz.underlying27, rfl, rfl, by kernel_rfl⟩, rfl, by kernel_rfl, by kernel_rfl⟩
 rcases ht with rfl | ht
 ·exact ⟨⟨_, Tryz.underlying29, rfl, rfl, rfl, rfl, rfl, rfl, rfl, rfl, rfl, trivial⟩, rfl, by kernel_rfl, by kernel_rfl⟩
 rcases ht with rfl | ht
 ·exact ⟨⟨rfl, _, Tryz.underlying32, rfl, rfl, by kernel_rfl⟩, rfl, by kernel_rfl, by kernel_rfl⟩
 rcases ht with rfl | ht
 ·exact ⟨⟨rfl, _, Tryz.underlying41, rfl, rfl, by kernel_rfl⟩, rfl, by kernel_rfl, by kernel_rfl⟩
 rcases ht with rfl | ht
 ·exact ⟨⟨_, Tryz.underlying43, rfl, rfl, rfl, rfl, rfl, rfl, rfl, rfl, rfl, trivial⟩, rfl, by kernel_rfl, by kernel_rfl⟩
 rcases ht with rfl | ht
 ·exact ⟨⟨rfl, _, Tryz.underlying44, rfl, rfl, by kernel_rfl⟩, rfl, by kernel_rfl, by kernel_rfl⟩
 rcases ht with rfl | ht
 ·exact ⟨⟨_, Tryz.underlying46, rfl, rfl, rfl, rfl, rfl, rfl, rfl, rfl, rfl, trivial⟩, rfl, by kernel_rfl, by kernel_rfl⟩
 rcases ht with rfl | ht
 ·exact ⟨⟨rfl, _, Tryz.underlying47, rfl, rfl, by kernel_rfl⟩, rfl, by kernel_rfl, by kernel_rfl⟩
 rcases ht with rfl | ht
 ·exact ⟨⟨_, Tryz.underlying49, rfl, rfl, rfl, rfl, rfl, rfl, rfl, rfl, rfl, trivial⟩, rfl, by kernel_rfl, by kernel_rfl⟩
 rcases ht with rfl | ht
 ·exact ⟨⟨_, Tryz.underlying53, rfl, rfl, rfl, rfl, rfl, rfl, rfl, rfl, rfl, rfl, rfl, rfl, trivial⟩, rfl, by kernel_rfl, by kernel_rfl⟩
 rcases ht with rfl | ht
 ·exact ⟨⟨rfl, _, Tryz.underlying57, rfl, rfl, by kernel_rfl⟩, rfl, by kernel_rfl, by kernel_rfl⟩
 rcases ht with rfl | ht
 ·exact ⟨⟨_, Tryz.underlying59, rfl, rfl, rfl, rfl, rfl, rfl, rfl, rfl, rfl, trivial⟩, rfl, by kernel_rfl, by kernel_rfl⟩
 rcases ht with rfl | ht
 ·exact ⟨⟨_, Tryz.underlying91, rfl, rfl, rfl, rfl, rfl, rfl, rfl, rfl, rfl, rfl, rfl, rfl, trivial⟩, rfl, by kernel_rfl, by kernel_rfl⟩
 rcases ht with rfl | ht
 ·exact ⟨⟨_, Tryz.underlying93, rfl, rfl, rfl, rfl, rfl, rfl, trivial⟩, rfl, by kernel_rfl, by kernel_rfl⟩
 rcases ht with rfl | ht
 ·exact ⟨⟨_, Tryz.underlying98, rfl, rfl, rfl, rfl, rfl, rfl, rfl, rfl, rfl, rfl, rfl, rfl, trivial⟩, rfl, by kernel_rfl, by kernel_rfl⟩
 rcases ht with rfl | ht
 ·exact ⟨⟨_, Tryz.underlying100, rfl, rfl, rfl, rfl, rfl, rfl, trivial⟩, rfl, by kernel_rfl, by kernel_rfl⟩
 rcases ht with rfl | ht
 ·exact ⟨⟨_, Tryz.underlying106, rfl, rfl, rfl, rfl, rfl, rfl, rfl, rfl, rfl, rfl, rfl, rfl, trivial⟩, rfl, by kernel_rfl, by kernel_rfl⟩
 rcases ht with rfl | ht
 ·exact ⟨⟨rfl, _, Tryz.underlying126, rfl, rfl, by kernel_rfl⟩, rfl, by kernel_rfl, by kernel_rfl⟩
 rcases ht with rfl | ht
 ·exact ⟨⟨rfl, _, Tryz.underlying130, rfl, rfl, by kernel_rfl⟩, rfl, by kernel_rfl, by kernel_rfl⟩
 rcases ht with rfl | ht
 ·exact ⟨Tryz.underlying139, rfl, by kernel_rfl, by kernel_rfl⟩
 rcases ht with rfl | ht
 ·exact ⟨⟨_, Tryz.underlying173⟩, rfl, by kernel_rfl, by kernel_rfl⟩
 rcases ht with rfl | ht
 ·exact ⟨⟨rfl, _, Tryz.underlying177, rfl, rfl, by kernel_rfl⟩, rfl, by kernel_rfl, by kernel_rfl⟩
 cases ht
def zDp : List (Nat × Hint) := []
noncomputable def z2v : Ent := mkE tysC 92 [] zDp Tryz.f92 [(.vw, tyR), (.vw, (.int .i64))] true (.int .i64)
theorem z7c : z2v.Ok Tryz.prog := z09 envC z08 Tryz.func92 (by decide +kernel) (by kernel_rfl)
def zCH : List (Nat × Hint) := [(122, .loop ⟨[0], [(1, 0, (.int .i64)), (5, 0, (.int .i64))], []⟩ [(1, ⟨[], [(4, 0, (.int .i64))], []⟩), (2, ⟨[], [(1, 0, (.int .i64))], []⟩)])]
noncomputable def z43 : Ent := mkE tysC 58 [z2v] zCH Tryz.f58 [(.vw, tyRf), (.vw, (.int .i64))] true (.int .i64)
theorem zBO : z43.Ok Tryz.prog := z09 envC (z03 z7c z08) Tryz.func58 (by decide +kernel) (by kernel_rfl)
def zHY : List (Nat × Hint) := []
noncomputable def z5J : Ent := mkE tysC 35 [z43] zHY Tryz.f35 [(.vw, tyZf), (.vw, (.int .i64))] true (.int .i64)
theorem zFz : z5J.Ok Tryz.prog := z09 envC (z03 zBO z08) Tryz.func35 (by decide +kernel) (by kernel_rfl)
def zFi : List (Nat × Hint) := []
noncomputable def z4l : Ent := mkE tysC 36 [] zFi Tryz.f36 [(.vw, (.lst false tyD)), (.vw, (.int .i64))] true (.int .i64)
theorem zER : z4l.Ok Tryz.prog := z09 envC z08 Tryz.func36 (by decide +kernel) (by kernel_rfl)
def zCG : List (Nat × Hint) := []
noncomputable def z42 : Ent := mkE tysC 17 [z5J, z4l] zCG Tryz.f17 [(.vw, (.pair tyZf (.pair (.lst false tyD) (.pair (.int .i64) .unit)))), (.vw, (.int .i64))] true (.int .i64)
theorem zBN : z42.Ok Tryz.prog := z09 envC (z03 zFz (z03 zER z08)) Tryz.func17 (by decide +kernel) (by kernel_rfl)
def zDo : List (Nat × Hint) := []
noncomputable def z3b : Ent := mkE tysC 59 [z2v] zDo Tryz.f59 [(.vw, (.pair (.int .i64) (.pair tyR .unit))), (.vw, (.int .i64))] true (.int .i64)
theorem zCZ : z3b.Ok Tryz.prog := z09 envC (z03 z7c z08) Tryz.func59 (by decide +kernel) (by kernel_rfl)
def zCF : List (Nat × Hint) := [(122, .loop ⟨[0], [(1, 0, (.int .i64)), (5, 0, (.int .i64))], []⟩ [(1, ⟨[], [(4, 0, (.int .i64))], []⟩), (2, ⟨[], [(1, 0, (.int .i64))], []⟩)])]
noncomputable def z41 : Ent := mkE tysC 37 [z3b] zCF Tryz.f37 [(.vw, (.lst false (.pair (.int .i64) (.pair tyR .unit)))), (.vw, (.int .i64))] true (.int .i64)
theorem zBM : z41.Ok Tryz.prog := z09 envC (z03 zCZ z08) Tryz.func37 (by decide +kernel) (by kernel_rfl)
def zFh : List (Nat × Hint) := []
noncomputable def z4k : Ent := mkE tysC 18 [z41] zFh Tryz.f18 [(.vw, (.pair (.int .i64) (.pair (.int .i64) (.pair (.lst false (.pair (.int .i64) (.pair tyR .unit))) .unit)))), (.vw, (.int .i64))] true (.int .i64)
theorem zEQ : z4k.Ok Tryz.prog := z09 envC (z03 zBM z08) Tryz.func18 (by decide +kernel) (by kernel_rfl)
def zDr : List (Nat × Hint) := []
noncomputable def z2w : Ent := mkE tysC 94 [] zDr Tryz.f94 [(.vw, tyR)] true tyR
theorem z7d : z2w.Ok Tryz.prog := z09 envC z08 Tryz.func94 (by decide +kernel) (by kernel_rfl)
def zCK : List (Nat × Hint) := [(58, .loop ⟨[0], [(3, 0, tyRt), (4, 0, (.int .i64))], []⟩ [(2, ⟨[], [(3, 0, tyRt)], []⟩)]), (0, .frz [2])]
noncomputable def z45 : Ent := mkE tysC 63 [z2w] zCK Tryz.f63 [(.vw, tyRf)] true tyRt
theorem zBR : z45.Ok Tryz.prog := z09 envC (z03 z7d z08) Tryz.func63 (by decide +kernel) (by kernel_rfl)
def zHa : List (Nat × Hint) := []
noncomputable def z5L : Ent := mkE tysC 39 [z45] zHa Tryz.f39 [(.vw, tyZf)] true tyZt
theorem zG1 : z5L.Ok Tryz.prog := z09 envC (z03 zBR z08) Tryz.func39 (by decide +kernel) (by kernel_rfl)
def zHZ : List (Nat × Hint) := []
noncomputable def z5K : Ent := mkE tysC 64 [] zHZ Tryz.f64 [(.vw, tyD)] true tyD
theorem zG0 : z5K.Ok Tryz.prog := z09 envC z08 Tryz.func64 (by decide +kernel) (by kernel_rfl)
def zFk : List (Nat × Hint) := [(58, .loop ⟨[0], [(3, 0, (.lst true tyD)), (4, 0, (.int .i64))], []⟩ [(2, ⟨[], [(3, 0, (.lst true tyD))], []⟩)]), (0, .frz [2])]
noncomputable def z4m : Ent := mkE tysC 40 [z5K] zFk Tryz.f40 [(.vw, (.lst false tyD))] true (.lst true tyD)
theorem zET : z4m.Ok Tryz.prog := z09 envC (z03 zG0 z08) Tryz.func40 (by decide +kernel) (by kernel_rfl)
def zCJ : List (Nat × Hint) := []
noncomputable def z1i : Ent := mkE tysC 20 [z5L, z4m] zCJ Tryz.f20 [(.vw, (.pair tyZf (.pair (.lst false tyD) (.pair (.int .i64) .unit))))] true (.pair tyZt (.pair (.lst true tyD) (.pair (.int .i64) .unit)))
theorem zBQ : z1i.Ok Tryz.prog := z09 envC (z03 zG1 (z03 zET z08)) Tryz.func20 (by decide +kernel) (by kernel_rfl)
def zDq : List (Nat × Hint) := []
noncomputable def z3c : Ent := mkE tysC 65 [z2w] zDq Tryz.f65 [(.vw, (.pair (.int .i64) (.pair tyR .unit)))] true (.pair (.int .i64) (.pair tyR .unit))
theorem zCa : z3c.Ok Tryz.prog := z09 envC (z03 z7d z08) Tryz.func65 (by decide +kernel) (by kernel_rfl)
def zCI : List (Nat × Hint) := [(58, .loop ⟨[0], [(3, 0, (.lst true (.pair (.int .i64) (.pair tyR .unit)))), (4, 0, (.int .i64))], []⟩ [(2, ⟨[], [(3, 0, (.lst true (.pair (.int .i64) (.pair tyR .unit))))], []⟩)]), (0, .frz [2])]
noncomputable def z44 : Ent := mkE tysC 41 [z3c] zCI Tryz.f41 [(.vw, (.lst false (.pair (.int .i64) (.pair tyR .unit))))] true (.lst true (.pair (.int .i64) (.pair tyR .unit)))
theorem zBP : z44.Ok Tryz.prog := z09 envC (z03 zCa z08) Tryz.func41 (by decide +kernel) (by kernel_rfl)
def zFj : List (Nat × Hint) := []
noncomputable def z2g : Ent := mkE tysC 21 [z44] zFj Tryz.f21 [(.vw, (.pair (.int .i64) (.pair (.int .i64) (.pair (.lst false (.pair (.int .i64) (.pair tyR .unit))) .unit))))] true (.pair (.int .i64) (.pair (.int .i64) (.pair (.lst true (.pair (.int .i64) (.pair tyR .unit))) .unit)))
theorem zES : z2g.Ok Tryz.prog := z09 envC (z03 zBP z08) Tryz.func21 (by decide +kernel) (by kernel_rfl)
def zL2 : List (Nat × Hint) := [(3, .join [(0, ⟨[], [(6, 0, .bool)], []⟩)])]
noncomputable def z0d : Ent := mkE tysC 60 [] zL2 Tryz.f60 [(.vw, (.int .i64)), (.vw, (.int .i64)), (.vw, (.int .i64))] true .bool
theorem z3I : z0d.Ok Tryz.prog := z09 envC z08 Tryz.func60 (by decide +kernel) (by kernel_rfl)
def zHd : List (Nat × Hint) := [(3, .join [(0, ⟨[], [(4, 0, .bool)], []⟩)])]
noncomputable def z3n : Ent := mkE tysC 45 [z0d] zHd Tryz.f45 [(.vw, (.int .i64)), (.vw, (.int .i64))] true .bool
theorem z91 : z3n.Ok Tryz.prog := z09 envC (z03 z3I z08) Tryz.func45 (by decide +kernel) (by kernel_rfl)
def zDy : List (Nat × Hint) := []
noncomputable def z4S : Ent := mkE tysC 61 [z0d] zDy Tryz.f61 [(.vw, (.int .i64))] true .bool
theorem zCf : z4S.Ok Tryz.prog := z09 envC (z03 z3I z08) Tryz.func61 (by decide +kernel) (by kernel_rfl)
def zFo : List (Nat × Hint) := [(122, .loop ⟨[0, 1], [(5, 0, (.lst true .str)), (6, 0, (.int .i64)), (7, 0, (.int .i64))], []⟩ [(2, ⟨[0], [(5, 0, (.lst true .str)), (6, 0, (.int .i64))], []⟩)]), (489, .join [(0, ⟨[0, 1, 7], [(5, 0, (.lst true .str)), (6, 0, (.int .i64))], []⟩)])]
noncomputable def z2i : Ent := mkE tysC 119 [] zFo Tryz.f119 [(.vw, .str), (.vw, (.int .u8))] true (.lst true .str)
theorem z8E : z2i.Ok Tryz.prog := z09 envC z08 Tryz.func119 (by decide +kernel) (by kernel_rfl)
def zFn : List (Nat × Hint) := [(58, .loop ⟨[0], [(3, 0, (.int .i64))], []⟩ [(1, ⟨[2], [], []⟩), (2, ⟨[0], [], []⟩)]), (1865, .join [(0, ⟨[0, 3], [(38, 0, .bool)], []⟩)])]
noncomputable def z3K : Ent := mkE tysC 120 [z0d] zFn Tryz.f120 [(.vw, .str)] true .bool
theorem zEV : z3K.Ok Tryz.prog := z09 envC (z03 z3I z08) Tryz.func120 (by decide +kernel) (by kernel_rfl)
def zDu : List (Nat × Hint) := [(31, .join [(0, ⟨[], [(2, 0, (.lst true .str)), (3, 0, .bool)], []⟩)]), (122, .loop ⟨[0, 4, 11, 12], [(13, 0, (.int .i64))], []⟩ [(1, ⟨[2, 3], [], []⟩), (2, ⟨[0, 4], [], []⟩)])]
noncomputable def z0n : Ent := mkE tysC 98 [z2i, z3K] zDu Tryz.f98 [(.vw, .str)] false (.pair (.lst true .str) (.pair .bool .unit))
theorem z4A : z0n.Ok Tryz.prog := z09 envC (z03 z8E (z03 zEV z08)) Tryz.func98 (by decide +kernel) (by kernel_rfl)
def zHf : List (Nat × Hint) := [(58, .loop ⟨[3, 12, 13], [(4, 0, .bool), (14, 0, (.int .i64))], []⟩ [(2, ⟨[], [(4, 0, .bool)], []⟩)]), (467, .join [(0, ⟨[3, 12, 13, 14], [(4, 0, .bool)], []⟩)])]
noncomputable def z5O : Ent := mkE tysC 70 [z0n] zHf Tryz.f70 [(.vw, .str)] true .bool
theorem zG5 : z5O.Ok Tryz.prog := z09 envC (z03 z4A z08) Tryz.func70 (by decide +kernel) (by kernel_rfl)
def zJJ : List (Nat × Hint) := [(122, .loop ⟨[0], [(3, 0, (.int .i64)), (4, 0, (.int .i64))], []⟩ [(1, ⟨[], [(2, 0, (.int .i64))], []⟩), (2, ⟨[], [(3, 0, (.int .i64))], []⟩)]), (3912, .join [(0, ⟨[0, 3, 4], [(34, 0, .bool)], []⟩)]), (6, .join [(0, ⟨[0], [(18, 0, .bool)], []⟩)])]
noncomputable def z2h : Ent := mkE tysC 139 [z0d] zJJ Tryz.f139 [(.vw, .str)] true (.int .i64)
theorem zHt : z2h.Ok Tryz.prog := z09 envC (z03 z3I z08) Tryz.func139 (by decide +kernel) (by kernel_rfl)
def zDw : List (Nat × Hint) := [(58, .loop ⟨[], [(0, 0, (.int .i64)), (5, 0, (.lst true (.int .u8))), (6, 0, (.int .i64))], []⟩ [(2, ⟨[], [(5, 0, (.lst true (.int .u8)))], []⟩)])]
noncomputable def z1G : Ent := mkE tysC 140 [] zDw Tryz.f140 [(.vw, (.int .i64)), (.vw, (.int .i64))] true .str
theorem zCd : z1G.Ok Tryz.prog := z09 envC z08 Tryz.func140 (by decide +kernel) (by kernel_rfl)
def zDx : List (Nat × Hint) := [(15, .join [(0, ⟨[], [(2, 0, .bool)], []⟩)]), (58, .loop ⟨[0, 3, 12, 13], [(4, 0, .bool), (14, 0, (.int .i64))], []⟩ [(2, ⟨[0], [(4, 0, .bool)], []⟩)]), (467, .join [(0, ⟨[0, 3, 12, 13, 14], [(4, 0, .bool)], []⟩)])]
noncomputable def z3e : Ent := mkE tysC 141 [z0n] zDx Tryz.f141 [(.vw, .str)] true .bool
theorem zCe : z3e.Ok Tryz.prog := z09 envC (z03 z4A z08) Tryz.func141 (by decide +kernel) (by kernel_rfl)
def zFp : List (Nat × Hint) := [(122, .loop ⟨[3, 13, 14], [(5, 0, .str), (15, 0, (.int .i64))], []⟩ [(2, ⟨[], [(5, 0, .str)], []⟩)])]
noncomputable def z3L : Ent := mkE tysC 142 [z0n] zFp Tryz.f142 [(.vw, .str)] true .str
theorem zEW : z3L.Ok Tryz.prog := z09 envC (z03 z4A z08) Tryz.func142 (by decide +kernel) (by kernel_rfl)
def zFq : List (Nat × Hint) := [(221170, .loop ⟨[1], [(13, 0, (.int .i64))], []⟩ [(1, ⟨[], [(4, 0, .str), (5, 0, .bool)], []⟩), (5, ⟨[1], [], []⟩)]), (3538724, .join [(0, ⟨[1, 13], [(104, 0, .bool)], []⟩)]), (27642, .join [(0, ⟨[12], [(76, 0, .bool)], []⟩)]), (107, .join [(0, ⟨[1, 14], [(39, 0, .bool)], []⟩)]), (3418, .loop ⟨[7, 19, 20], [(6, 0, .str), (21, 0, (.int .i64))], []⟩ [(1, ⟨[4, 5], [], []⟩), (3, ⟨[7], [(6, 0, .str)], []⟩)])]
noncomputable def z1I : Ent := mkE tysC 121 [z2i, z2h, z0d, z1G, z3e, z3L] zFq Tryz.f121 [(.vw, (.int .i64)), (.vw, .str)] false (.pair .str (.pair .bool .unit))
theorem z8F : z1I.Ok Tryz.prog := z09 envC (z03 z8E (z03 zHt (z03 z3I (z03 zCd (z03 zCe (z03 zEW z08)))))) Tryz.func121 (by decide +kernel) (by kernel_rfl)
def zDs : List (Nat × Hint) := []
noncomputable def z4R : Ent := mkE tysC 122 [z0n] zDs Tryz.f122 [(.vw, .str)] true .bool
theorem zCb : z4R.Ok Tryz.prog := z09 envC (z03 z4A z08) Tryz.func122 (by decide +kernel) (by kernel_rfl)
def zB2 : List (Nat × Hint) := [(7, .join [(0, ⟨[], [(2, 0, .bool)], []⟩)])]
noncomputable def z27 : Ent := mkE tysC 99 [z1I, z4R, z0d] zB2 Tryz.f99 [(.vw, tyR)] true .bool
theorem z6j : z27.Ok Tryz.prog := z09 envC (z03 z8F (z03 zCb (z03 z3I z08))) Tryz.func99 (by decide +kernel) (by kernel_rfl)
def zCM : List (Nat × Hint) := [(122, .loop ⟨[5, 7], [(9, 0, (.int .i64))], []⟩ [(1, ⟨[], [(4, 0, (.int .i64))], []⟩), (2, ⟨[5, 7], [], []⟩)]), (488, .join [(0, ⟨[5, 7, 9], [(31, 0, .bool)], []⟩)])]
noncomputable def z48 : Ent := mkE tysC 123 [z0n] zCM Tryz.f123 [(.vw, .str), (.vw, .str)] true (.int .i64)
theorem zBU : z48.Ok Tryz.prog := z09 envC (z03 z4A z08) Tryz.func123 (by decide +kernel) (by kernel_rfl)
def zHe : List (Nat × Hint) := []
noncomputable def z3o : Ent := mkE tysC 124 [] zHe Tryz.f124 [(.vw, .bool)] true (.int .i64)
theorem zG4 : z3o.Ok Tryz.prog := z09 envC z08 Tryz.func124 (by decide +kernel) (by kernel_rfl)
def zCN : List (Nat × Hint) := []
noncomputable def z0z : Ent := mkE tysC 100 [z48, z1I, z3o] zCN Tryz.f100 [(.vw, tyR), (.vw, tyR)] true (.int .i64)
theorem z74 : z0z.Ok Tryz.prog := z09 envC (z03 zBU (z03 z8F (z03 zG4 z08))) Tryz.func100 (by decide +kernel) (by kernel_rfl)
def zHh : List (Nat × Hint) := [(26, .loop ⟨[0, 5, 6], [(7, 0, (.int .i64))], []⟩ [(1, ⟨[2], [], []⟩), (2, ⟨[0], [], []⟩)]), (1689, .join [(0, ⟨[0, 5, 6, 7], [(28, 0, .bool)], []⟩)])]
noncomputable def z5P : Ent := mkE tysC 117 [z27, z0z] zHh Tryz.f117 [(.vw, tyRf)] true .bool
theorem zG7 : z5P.Ok Tryz.prog := z09 envC (z03 z6j (z03 z74 z08)) Tryz.func117 (by decide +kernel) (by kernel_rfl)
def zFm : List (Nat × Hint) := [(7, .join [(0, ⟨[], [(4, 0, .bool)], []⟩)])]
noncomputable def z1c : Ent := mkE tysC 101 [] zFm Tryz.f101 [(.vw, .str), (.vw, .str)] true .bool
theorem z8D : z1c.Ok Tryz.prog := z09 envC z08 Tryz.func101 (by decide +kernel) (by kernel_rfl)
def zJM : List (Nat × Hint) := [(26, .loop ⟨[1, 2, 9, 10], [(11, 0, (.int .i64))], []⟩ [(1, ⟨[], [(6, 0, .bool)], []⟩), (2, ⟨[], [], []⟩)]), (1689, .join [(0, ⟨[1, 2, 9, 10, 11], [(24, 0, .bool)], []⟩)])]
noncomputable def z1j : Ent := mkE tysC 72 [] zJM Tryz.f72 [(.vw, tyRf), (.vw, .str), (.vw, (.int .i64))] true .bool
theorem z7N : z1j.Ok Tryz.prog := z09 envC z08 Tryz.func72 (by decide +kernel) (by kernel_rfl)
def zDv : List (Nat × Hint) := [(26, .loop ⟨[0], [(3, 0, (.int .i64))], []⟩ [(1, ⟨[], [(2, 0, .str)], []⟩), (2, ⟨[], [], []⟩)])]
noncomputable def z3d : Ent := mkE tysC 125 [] zDv Tryz.f125 [(.vw, .str)] true .str
theorem zCc : z3d.Ok Tryz.prog := z09 envC z08 Tryz.func125 (by decide +kernel) (by kernel_rfl)
def zJL : List (Nat × Hint) := [(60, .loop ⟨[0, 1], [(2, 0, .str), (8, 0, .str), (9, 0, .bool)], []⟩ [(2, ⟨[], [(8, 0, .str), (9, 0, .bool)], []⟩)]), (482, .join [(0, ⟨[0, 1, 2], [(8, 0, .str), (9, 0, .bool)], []⟩)]), (240, .join [(0, ⟨[0, 1, 2, 8, 9], [(17, 0, .bool)], []⟩)])]
noncomputable def z54 : Ent := mkE tysC 102 [z1c, z1j, z3d] zJL Tryz.f102 [(.vw, .str), (.vw, tyRf), (.vw, .str)] false (.pair .str (.pair .bool .unit))
theorem zHw : z54.Ok Tryz.prog := z09 envC (z03 z8D (z03 z7N (z03 zCc z08))) Tryz.func102 (by decide +kernel) (by kernel_rfl)
def zHi : List (Nat × Hint) := [(2042, .loop ⟨[0, 1, 132, 133], [(134, 0, (.int .i64))], []⟩ [(1, ⟨[], [(4, 0, (.int .i64))], []⟩), (10, ⟨[], [], []⟩)]), (261427, .join [(0, ⟨[0, 1, 132, 133, 134], [(162, 0, .bool)], []⟩)]), (506, .loop ⟨[0, 1, 97, 98], [(99, 0, (.int .i64))], []⟩ [(1, ⟨[], [(4, 0, (.int .i64))], []⟩), (6, ⟨[0, 1], [], []⟩)]), (129638, .loop ⟨[0, 1, 11, 97, 98, 99, 106, 107], [(108, 0, (.int .i64))], []⟩ [(1, ⟨[], [(4, 0, (.int .i64))], []⟩), (8, ⟨[0, 1, 97, 98, 99], [], []⟩)]), (8296857, .join [(0, ⟨[0, 1, 11, 97, 98, 99, 106, 107, 108], [(126, 0, .bool)], []⟩)]), (250, .loop ⟨[0, 1, 43, 44], [(45, 0, (.int .i64))], []⟩ [(1, ⟨[], [(4, 0, (.int .i64))], []⟩), (4, ⟨[0, 1], [], []⟩)]), (16025, .join [(0, ⟨[0, 1, 43, 44, 45], [(95, 0, .bool)], []⟩)]), (58, .loop ⟨[0, 1, 18, 19], [(5, 0, (.int .i64)), (20, 0, (.int .i64))], []⟩ [(1, ⟨[], [(4, 0, (.int .i64))], []⟩), (2, ⟨[0, 1], [(5, 0, (.int .i64))], []⟩)]), (467, .join [(0, ⟨[0, 1, 18, 19, 20], [(5, 0, (.int .i64))], []⟩), (1, ⟨[], [(4, 0, (.int .i64))], []⟩)])]
noncomputable def z3p : Ent := mkE tysC 75 [z1c, z1j, z54] zHi Tryz.f75 [(.vw, .str), (.vw, tyRf)] true (.int .i64)
theorem z92 : z3p.Ok Tryz.prog := z09 envC (z03 z8D (z03 z7N (z03 zHw z08))) Tryz.func75 (by decide +kernel) (by kernel_rfl)
def zHb : List (Nat × Hint) := [(6, .join [(0, ⟨[0, 1], [(12, 0, .bool)], []⟩)])]
noncomputable def z5M : Ent := mkE tysC 93 [z5O, z5P, z3p] zHb Tryz.f93 [(.vw, .str), (.vw, tyRf)] true (.int .i64)
theorem zG2 : z5M.Ok Tryz.prog := z09 envC (z03 zG5 (z03 zG7 (z03 z92 z08))) Tryz.func93 (by decide +kernel) (by kernel_rfl)
def zBs : List (Nat × Hint) := []
noncomputable def zKR : Ent := ⟨103, [(.vw, (.int .i64))], true, .str, fun _ => none⟩
noncomputable def zBx : PE := (comp tysC [zKR] zBs Tryz.f103 [(.vw, (.int .i64))] true .str).getD .bot
noncomputable def z49 : Nat → List D → Option D
 | 0 => fun _ => none
 | k + 1 => zPu [⟨103, [(.vw, (.int .i64))], true, .str, z49 k⟩] zBx
noncomputable abbrev zBy (k : Nat) : Ent := ⟨103, [(.vw, (.int .i64))], true, .str, z49 k⟩
theorem z93 : ∀ k, (zBy k).Ok Tryz.prog
 | 0 => ⟨⟨Tryz.f103, Tryz.func103, by decide +kernel, by kernel_rfl⟩, fun _ _ _ h => by cases h⟩
 | k + 1 => Ent.ok_of (pe := zBx) (fn := Tryz.f103) (hs := zBs) envC (z03 (z93 k) z08) Tryz.func103 (by decide +kernel) (by kernel_rfl) rfl
noncomputable def z6e : Ent := zBy 40
theorem zHu : z6e.Ok Tryz.prog := z93 40
def zJO : List (Nat × Hint) := []
noncomputable def z3i : Ent := mkE tysC 76 [z6e] zJO Tryz.f76 [(.vw, tyZf)] true .str
theorem zAK : z3i.Ok Tryz.prog := z09 envC (z03 zHu z08) Tryz.func76 (by decide +kernel) (by kernel_rfl)
def zDt : List (Nat × Hint) := [(58, .loop ⟨[1, 18, 19], [(20, 0, (.int .i64))], []⟩ [(1, ⟨[], [(2, 0, .bool)], []⟩), (2, ⟨[], [], []⟩)]), (3737, .join [(0, ⟨[1, 18, 19, 20], [(33, 0, .bool)], []⟩)]), (6, .join [(0, ⟨[1], [(16, 0, .bool)], []⟩)])]
noncomputable def z2x : Ent := mkE tysC 62 [z0d, z5M, z3i] zDt Tryz.f62 [(.vw, tyZf)] true .bool
theorem z7e : z2x.Ok Tryz.prog := z09 envC (z03 z3I (z03 zG2 (z03 zAK z08))) Tryz.func62 (by decide +kernel) (by kernel_rfl)
def zA7 : List (Nat × Hint) := [(7, .join [(0, ⟨[], [(2, 0, .bool)], []⟩)]), (26, .loop ⟨[1, 6, 7], [(8, 0, (.int .i64))], []⟩ [(1, ⟨[2], [], []⟩), (2, ⟨[1], [], []⟩)]), (1689, .join [(0, ⟨[1, 6, 7, 8], [(46, 0, .bool)], []⟩)])]
noncomputable def z3H : Ent := mkE tysC 38 [z3n, z0d, z4S, z2x] zA7 Tryz.f38 [(.vw, (.pair tyZf (.pair (.lst false tyD) (.pair (.int .i64) .unit))))] true .bool
theorem z9Z : z3H.Ok Tryz.prog := z09 envC (z03 z91 (z03 z3I (z03 zCf (z03 z7e z08)))) Tryz.func38 (by decide +kernel) (by kernel_rfl)
def zJN : List (Nat × Hint) := []
noncomputable def z2L : Ent := mkE tysC 47 [] zJN Tryz.f47 [(.vw, tyZf)] true tyZt
theorem zAJ : z2L.Ok Tryz.prog := z09 envC z08 Tryz.func47 (by decide +kernel) (by kernel_rfl)
def zHc : List (Nat × Hint) := []
noncomputable def z5N : Ent := mkE tysC 28 [z2L] zHc Tryz.f28 [(.vw, (.pair tyZf (.pair (.lst false tyD) (.pair (.int .i64) .unit))))] true (.pair tyZt (.pair (.lst true tyD) (.pair (.int .i64) .unit)))
theorem zG3 : z5N.Ok Tryz.prog := z09 envC (z03 zAJ z08) Tryz.func28 (by decide +kernel) (by kernel_rfl)
def zFr : List (Nat × Hint) := [(26, .loop ⟨[0, 5, 6], [(7, 0, (.int .i64))], []⟩ [(1, ⟨[2], [], []⟩), (2, ⟨[0], [], []⟩)]), (1689, .join [(0, ⟨[0, 5, 6, 7], [(26, 0, .bool)], []⟩)])]
noncomputable def z4o : Ent := mkE tysC 71 [z0d, z27] zFr Tryz.f71 [(.vw, (.lst false (.pair (.int .i64) (.pair tyR .unit))))] true .bool
theorem zEX : z4o.Ok Tryz.prog := z09 envC (z03 z3I (z03 z6j z08)) Tryz.func71 (by decide +kernel) (by kernel_rfl)
def zHg : List (Nat × Hint) := [(58, .loop ⟨[3, 8, 9], [(5, 0, tyRt), (10, 0, (.int .i64))], []⟩ [(2, ⟨[], [(5, 0, tyRt)], []⟩)]), (467, .join [(0, ⟨[3, 8, 9, 10], [(5, 0, tyRt)], []⟩)]), (3737, .join [(0, ⟨[3, 5, 7, 8, 9, 10], [(32, 0, .bool)], []⟩)]), (0, .frz [4])]
noncomputable def z1U : Ent := mkE tysC 73 [] zHg Tryz.f73 [(.vw, tyRf), (.vw, tyR)] true tyRt
theorem zG6 : z1U.Ok Tryz.prog := z09 envC z08 Tryz.func73 (by decide +kernel) (by kernel_rfl)
def zJK : List (Nat × Hint) := [(30, .join [(0, ⟨[0, 3, 5], [(33, 0, .bool)], []⟩)]), (28, .loop ⟨[0, 3], [(5, 0, (.int .i64))], []⟩ [(2, ⟨[0, 3], [(5, 0, (.int .i64))], []⟩)]), (112, .join [(0, ⟨[0, 3, 5], [(19, 0, .bool)], []⟩)]), (0, .frz [4])]
noncomputable def z3h : Ent := mkE tysC 74 [z0z] zJK Tryz.f74 [(.own, tyRt), (.vw, tyR)] true tyRt
theorem zHv : z3h.Ok Tryz.prog := z09 envC (z03 z74 z08) Tryz.func74 (by decide +kernel) (by kernel_rfl)
def zB1 : List (Nat × Hint) := [(8186, .loop ⟨[4, 9, 108, 109], [(12, 2, tyZt), (110, 0, (.int .i64))], []⟩ [(7, ⟨[4], [(12, 2, tyZt)], []⟩)]), (523929, .join [(0, ⟨[4, 9, 12, 108, 109, 110], [(14, 2, tyR)], []⟩)]), (254, .join [(0, ⟨[2, 4, 9], [(92, 0, .bool)], []⟩)]), (506, .loop ⟨[2, 4, 61, 62], [(9, 0, tyRt), (63, 0, (.int .i64))], []⟩ [(4, ⟨[2, 4], [(9, 0, tyRt)], []⟩)]), (4051, .join [(0, ⟨[2, 4, 61, 62, 63], [(9, 0, tyRt)], []⟩)]), (122, .loop ⟨[1, 2, 4, 24, 25], [(26, 0, (.int .i64))], []⟩ [(1, ⟨[], [(4, 2, tyZt), (5, 0, (.int .i64))], []⟩), (2, ⟨[1, 2, 4], [], []⟩)]), (15667, .join [(0, ⟨[1, 2, 4, 24, 25, 26], [(53, 0, .bool)], []⟩)])]
noncomputable def z2m : Ent := mkE tysC 46 [z2x, z4o, z2L, z1j, z1U, z3h, z3p, z3i] zB1 Tryz.f46 [(.vw, tyZf), (.vw, (.lst false (.pair (.int .i64) (.pair tyR .unit))))] false (.pair tyZt (.pair (.int .i64) .unit))
theorem zAI : z2m.Ok Tryz.prog := z09 envC (z03 z7e (z03 zEX (z03 zAJ (z03 z7N (z03 zG6 (z03 zHv (z03 z92 (z03 zAK z08)))))))) Tryz.func46 (by decide +kernel) (by kernel_rfl)
def zFl : List (Nat × Hint) := [(8191, .join [(0, ⟨[2, 4, 5, 9, 11, 12], [(7, 0, (.int .i64))], []⟩)]), (254, .join [(0, ⟨[2, 3, 4, 5, 7, 8], [(99, 0, .bool)], []⟩)]), (126, .join [(0, ⟨[2, 3, 4, 5, 7, 8], [(66, 0, .bool)], []⟩)]), (31, .join [(0, ⟨[2, 3, 4, 5, 7], [(8, 0, .bool)], []⟩)]), (60, .loop ⟨[2, 3, 4, 5], [(7, 0, (.int .i64))], []⟩ [(2, ⟨[2, 3, 4, 5], [(7, 0, (.int .i64))], []⟩)]), (240, .join [(0, ⟨[2, 3, 4, 5, 7], [(36, 0, .bool)], []⟩)]), (0, .frz [67])]
noncomputable def z4n : Ent := mkE tysC 27 [z3n, z2m] zFl Tryz.f27 [(.own, (.pair tyZt (.pair (.lst true tyD) (.pair (.int .i64) .unit)))), (.vw, (.pair (.int .i64) (.pair (.int .i64) (.pair (.lst false (.pair (.int .i64) (.pair tyR .unit))) .unit))))] false (.pair (.pair tyZt (.pair (.lst true tyD) (.pair (.int .i64) .unit))) (.pair tyD (.pair .bool .unit)))
theorem zEU : z4n.Ok Tryz.prog := z09 envC (z03 z91 (z03 zAI z08)) Tryz.func27 (by decide +kernel) (by kernel_rfl)
def zCL : List (Nat × Hint) := []
noncomputable def z47 : Ent := mkE tysC 19 [z3H, z5N, z4n] zCL Tryz.f19 [(.vw, (.pair tyZf (.pair (.lst false tyD) (.pair (.int .i64) .unit)))), (.vw, (.pair (.int .i64) (.pair (.int .i64) (.pair (.lst false (.pair (.int .i64) (.pair tyR .unit))) .unit))))] false (.pair (.pair tyZt (.pair (.lst true tyD) (.pair (.int .i64) .unit))) (.pair tyD (.pair .bool .unit)))
theorem zBT : z47.Ok Tryz.prog := z09 envC (z03 z9Z (z03 zG3 (z03 zEU z08))) Tryz.func19 (by decide +kernel) (by kernel_rfl)
def zHV : List (Nat × Hint) := [(3, .join [(0, ⟨[], [(6, 0, .bool)], []⟩)])]
noncomputable def z0e : Ent := mkE tysC 67 [] zHV Tryz.f67 [(.vw, (.int .i64)), (.vw, (.int .i64)), (.vw, (.int .i64))] true .bool
theorem z2k : z0e.Ok Tryz.prog := z09 envC z08 Tryz.func67 (by decide +kernel) (by kernel_rfl)
def zC8 : List (Nat × Hint) := []
noncomputable def z3v : Ent := mkE tysC 95 [z0e] zC8 Tryz.f95 [(.vw, (.int .i64))] true .bool
theorem zBF : z3v.Ok Tryz.prog := z09 envC (z03 z2k z08) Tryz.func95 (by decide +kernel) (by kernel_rfl)
noncomputable abbrev z2M : Ent := zKB 147
theorem z7f : z2M.Ok Tryz.prog := zOq Tryz.l146 (by kernel_rfl) Tryz.func147 (by decide +kernel) rfl zDX
def zDh : List (Nat × Hint) := []
noncomputable def z1Q : Ent := mkE tysC 143 [z2M] zDh Tryz.f143 [(.vw, .str)] true (.lst true .str)
theorem z6A : z1Q.Ok Tryz.prog := z09 envC (z03 z7f z08) Tryz.func143 (by decide +kernel) (by kernel_rfl)
noncomputable abbrev z4F : Ent := zOw 165
theorem zEZ : z4F.Ok Tryz.prog := zPz Tryz.l160 (by kernel_rfl) (by kernel_rfl) Tryz.func165 (by decide +kernel) rfl
def zFc : List (Nat × Hint) := [(7, .join [(0, ⟨[], [(2, 0, .bool)], []⟩)])]
noncomputable def z4f : Ent := mkE tysC 146 [z0e, z4F] zFc Tryz.f146 [(.vw, .str)] true .bool
theorem zEL : z4f.Ok Tryz.prog := z09 envC (z03 z2k (z03 zEZ z08)) Tryz.func146 (by decide +kernel) (by kernel_rfl)
def zAv : List (Nat × Hint) := []
noncomputable def z2l : Ent := mkE tysC 145 [z4f] zAv Tryz.f145 [(.vw, .str)] true .bool
theorem zAE : z2l.Ok Tryz.prog := z09 envC (z03 zEL z08) Tryz.func145 (by decide +kernel) (by kernel_rfl)
def z35 : List (Nat × Hint) := [(26, .loop ⟨[0, 1, 7], [(8, 0, (.int .i64))], []⟩ [(1, ⟨[], [(4, 0, (.int .i64))], []⟩), (2, ⟨[], [], []⟩)])]
noncomputable def z0X : Ent := mkE tysC 164 [z2l] z35 Tryz.f164 [(.vw, (.lst false .str)), (.vw, (.fn 145 .unit))] true (.int .i64)
theorem z33 : z0X.Ok Tryz.prog := z09 envC (z03 zAE z08) Tryz.func164 (by decide +kernel) (by kernel_rfl)
def z2o : List (Nat × Hint) := []
noncomputable def z0V : Ent := mkE tysC 144 [z0X] z2o Tryz.f144 [(.vw, (.lst false .str)), (.vw, (.fn 145 .unit))] true .bool
theorem z2f : z0V.Ok Tryz.prog := z09 envC (z03 z33 z08) Tryz.func144 (by decide +kernel) (by kernel_rfl)
def zDZ : List (Nat × Hint) := [(15, .join [(0, ⟨[], [(2, 0, .bool)], []⟩)])]
noncomputable def z1d : Ent := mkE tysC 127 [z1Q, z0V] zDZ Tryz.f127 [(.vw, .str)] true .bool
theorem z69 : z1d.Ok Tryz.prog := z09 envC (z03 z6A (z03 z2f z08)) Tryz.func127 (by decide +kernel) (by kernel_rfl)
noncomputable abbrev z1N : Ent := z7q 161
theorem z6Q : z1N.Ok Tryz.prog := zIo Tryz.l144 (by kernel_rfl) Tryz.func161 (by decide +kernel) rfl zDX
def zHT : List (Nat × Hint) := [(3, .join [(0, ⟨[], [(2, 0, .bool)], []⟩)])]
noncomputable def z5G : Ent := mkE tysC 133 [z1d, z1N] zHT Tryz.f133 [(.vw, .str)] true .bool
theorem zFw : z5G.Ok Tryz.prog := z09 envC (z03 z69 (z03 z6Q z08)) Tryz.func133 (by decide +kernel) (by kernel_rfl)
noncomputable abbrev z4E : Ent := zKT 167
theorem zEY : z4E.Ok Tryz.prog := zP6 Tryz.l172 (by kernel_rfl) Tryz.func167 (by decide +kernel) rfl zRN zRM
noncomputable abbrev z2j : Ent := zO0 118
theorem z8G : z2j.Ok Tryz.prog := zPZ Tryz.l171 (by kernel_rfl) Tryz.func118 (by decide +kernel) rfl (by kernel_rfl) zRL
def zDi : List (Nat × Hint) := [(7, .join [(0, ⟨[], [(4, 0, (.int .i64)), (5, 0, .bool)], []⟩)])]
noncomputable def z1e : Ent := mkE tysC 148 [z4E, z0e, z2j] zDi Tryz.f148 [(.vw, .str), (.vw, (.int .i64))] false (.pair (.int .i64) (.pair .bool .unit))
theorem zCV : z1e.Ok Tryz.prog := z09 envC (z03 zEY (z03 z2k (z03 z8G z08))) Tryz.func148 (by decide +kernel) (by kernel_rfl)
def zMj : List (Nat × Hint) := [(58, .loop ⟨[0], [(5, 0, (.lst true (.int .u8))), (6, 0, (.int .i64))], []⟩ [(2, ⟨[], [(5, 0, (.lst true (.int .u8)))], []⟩)])]
noncomputable def z3B : Ent := mkE tysC 149 [] zMj Tryz.f149 [(.vw, (.int .i64)), (.vw, (.int .i64))] true .str
theorem zLC : z3B.Ok Tryz.prog := z09 envC z08 Tryz.func149 (by decide +kernel) (by kernel_rfl)
def zDg : List (Nat × Hint) := [(3, .join [(0, ⟨[], [(2, 0, .bool)], []⟩)])]
noncomputable def z3Y : Ent := mkE tysC 150 [z1d, z1N] zDg Tryz.f150 [(.vw, .str)] true .bool
theorem zCU : z3Y.Ok Tryz.prog := z09 envC (z03 z69 (z03 z6Q z08)) Tryz.func150 (by decide +kernel) (by kernel_rfl)
def zAy : List (Nat × Hint) := [(58, .loop ⟨[7, 8], [(3, 0, .str), (9, 0, (.int .i64))], []⟩ [(2, ⟨[], [(3, 0, .str)], []⟩)])]
noncomputable def z25 : Ent := mkE tysC 151 [z1Q] zAy Tryz.f151 [(.vw, .str)] true .str
theorem zAG : z25.Ok Tryz.prog := z09 envC (z03 z6A z08) Tryz.func151 (by decide +kernel) (by kernel_rfl)
noncomputable abbrev z4V : Ent := cutE 152
theorem zG8 : z4V.Ok Tryz.prog := zQP Tryz.l145 (by kernel_rfl) Tryz.func152 (by decide +kernel) rfl zDX
def z9z : List (Nat × Hint) := [(3, .join [(0, ⟨[], [(2, 0, .bool)], []⟩)])]
noncomputable def z2X : Ent := mkE tysC 154 [] z9z Tryz.f154 [(.vw, (.int .u8))] true .bool
theorem z9R : z2X.Ok Tryz.prog := z09 envC z08 Tryz.func154 (by decide +kernel) (by kernel_rfl)
def z3O : List (Nat × Hint) := [(26, .loop ⟨[0, 1, 7], [(8, 0, (.int .i64))], []⟩ [(1, ⟨[], [(4, 0, (.int .i64))], []⟩), (2, ⟨[], [], []⟩)])]
noncomputable def z0Z : Ent := mkE tysC 169 [z2X] z3O Tryz.f169 [(.vw, (.lst false (.int .u8))), (.vw, (.fn 154 .unit))] true (.int .i64)
theorem z3M : z0Z.Ok Tryz.prog := z09 envC (z03 z9R z08) Tryz.func169 (by decide +kernel) (by kernel_rfl)
def z34 : List (Nat × Hint) := []
noncomputable def z0W : Ent := mkE tysC 153 [z0Z] z34 Tryz.f153 [(.vw, (.lst false (.int .u8))), (.vw, (.fn 154 .unit))] true .bool
theorem z32 : z0W.Ok Tryz.prog := z09 envC (z03 z3M z08) Tryz.func153 (by decide +kernel) (by kernel_rfl)
def zC3 : List (Nat × Hint) := [(55292, .join [(0, ⟨[1], [(103, 0, .bool)], []⟩)]), (55286, .join [(0, ⟨[15, 17], [(87, 0, .bool)], []⟩)]), (107, .join [(0, ⟨[1, 19], [(48, 0, .bool)], []⟩)]), (3418, .loop ⟨[7, 24, 25], [(6, 0, .str), (26, 0, (.int .i64))], []⟩ [(1, ⟨[4, 5], [], []⟩), (3, ⟨[], [(6, 0, .str)], []⟩)]), (875110, .join [(0, ⟨[6, 7, 10, 24, 25, 26], [(41, 0, .bool)], []⟩)])]
noncomputable def z0y : Ent := mkE tysC 128 [z2M, z1e, z3B, z3Y, z25, z4V, z0W] zC3 Tryz.f128 [(.vw, (.int .i64)), (.vw, .str)] false (.pair .str (.pair .bool .unit))
theorem z71 : z0y.Ok Tryz.prog := z09 envC (z03 z7f (z03 zCV (z03 zLC (z03 zCU (z03 zAG (z03 zG8 (z03 z32 z08))))))) Tryz.func128 (by decide +kernel) (by kernel_rfl)
def zAw : List (Nat × Hint) := [(6, .join [(0, ⟨[1], [(20, 0, .bool)], []⟩)])]
noncomputable def z22 : Ent := mkE tysC 108 [z1d, z0e, z0y] zAw Tryz.f108 [(.vw, tyR)] true .bool
theorem z6h : z22.Ok Tryz.prog := z09 envC (z03 z69 (z03 z2k (z03 z71 z08))) Tryz.func108 (by decide +kernel) (by kernel_rfl)
def z5u : List (Nat × Hint) := [(6, .loop ⟨[], [(0, 0, (.lst true .str)), (2, 0, (.int .i64)), (3, 0, (.int .i64))], []⟩ [(2, ⟨[], [(0, 0, (.lst true .str))], []⟩)])]
noncomputable def z0p : Ent := mkE tysC 191 [] z5u Tryz.f191 [(.io, (.lst true .str))] false .unit
theorem z5i : z0p.Ok Tryz.prog := z09 envC z08 Tryz.func191 (by decide +kernel) (by kernel_rfl)
def z9y : List (Nat × Hint) := []
noncomputable def z2W : Ent := mkE tysC 226 [] z9y Tryz.f226 [(.vw, .str)] true .bool
theorem z9Q : z2W.Ok Tryz.prog := z09 envC z08 Tryz.func226 (by decide +kernel) (by kernel_rfl)
def z8m : List (Nat × Hint) := []
noncomputable def z1L : Ent := mkE tysC 215 [z2W] z8m Tryz.f215 [(.vw, .str), (.vw, .str)] true (.int .i64)
theorem z8A : z1L.Ok Tryz.prog := z09 envC (z03 z9Q z08) Tryz.func215 (by decide +kernel) (by kernel_rfl)
def z5t : List (Nat × Hint) := [(26, .loop ⟨[0, 1, 9, 10], [(11, 0, (.int .i64))], []⟩ [(1, ⟨[], [(4, 0, (.int .i64))], []⟩), (2, ⟨[0, 1], [], []⟩)])]
noncomputable def z11 : Ent := mkE tysC 192 [z1L] z5t Tryz.f192 [(.vw, (.lst false .str)), (.vw, (.lst false .str))] true (.int .i64)
theorem z5h : z11.Ok Tryz.prog := z09 envC (z03 z8A z08) Tryz.func192 (by decide +kernel) (by kernel_rfl)
def z9J : List (Nat × Hint) := []
noncomputable def z2s : Ent := mkE tysC 170 [z1Q, z0p, z11] z9J Tryz.f170 [(.vw, .str), (.vw, .str)] true (.int .i64)
theorem z8r : z2s.Ok Tryz.prog := z09 envC (z03 z6A (z03 z5i (z03 z5h z08))) Tryz.func170 (by decide +kernel) (by kernel_rfl)
def zDY : List (Nat × Hint) := []
noncomputable def z3S : Ent := mkE tysC 105 [] zDY Tryz.f105 [(.vw, (.int .i64))] true .bool
theorem zCO : z3S.Ok Tryz.prog := z09 envC z08 Tryz.func105 (by decide +kernel) (by kernel_rfl)
def zAu : List (Nat × Hint) := []
noncomputable def z1K : Ent := mkE tysC 81 [z3S] zAu Tryz.f81 [(.vw, (.int .i64)), (.vw, (.int .i64))] true (.int .i64)
theorem z5S : z1K.Ok Tryz.prog := z09 envC (z03 zCO z08) Tryz.func81 (by decide +kernel) (by kernel_rfl)
def zJH : List (Nat × Hint) := [(58, .loop ⟨[3, 6, 7], [(8, 0, (.int .i64))], []⟩ [(1, ⟨[], [(2, 0, (.int .i64))], []⟩), (2, ⟨[3], [], []⟩)])]
noncomputable def z4M : Ent := mkE tysC 155 [] zJH Tryz.f155 [(.vw, (.lst false (.int .i64)))] true (.int .i64)
theorem zAD : z4M.Ok Tryz.prog := z09 envC z08 Tryz.func155 (by decide +kernel) (by kernel_rfl)
def zA1 : List (Nat × Hint) := []
noncomputable def z3E : Ent := mkE tysC 156 [z2s, z1K, z4M] zA1 Tryz.f156 [(.vw, tyR), (.vw, tyR)] true (.int .i64)
theorem z9T : z3E.Ok Tryz.prog := z09 envC (z03 z8r (z03 z5S (z03 zAD z08))) Tryz.func156 (by decide +kernel) (by kernel_rfl)
def zC7 : List (Nat × Hint) := []
noncomputable def z3C : Ent := mkE tysC 158 [z0y] zC7 Tryz.f158 [(.vw, (.int .i64)), (.vw, .str)] true .str
theorem zBE : z3C.Ok Tryz.prog := z09 envC (z03 z71 z08) Tryz.func158 (by decide +kernel) (by kernel_rfl)
noncomputable abbrev z2n : Ent := zD6 157
theorem zAL : z2n.Ok Tryz.prog := zKa Tryz.l106 (by kernel_rfl) Tryz.func157 (by decide +kernel) rfl
def z81 : List (Nat × Hint) := []
noncomputable def z0t : Ent := mkE tysC 131 [z3E, z3C, z2n, z1K, z4M] z81 Tryz.f131 [(.vw, tyR), (.vw, tyR)] true (.int .i64)
theorem z5a : z0t.Ok Tryz.prog := z09 envC (z03 z9T (z03 zBE (z03 zAL (z03 z5S (z03 zAD z08))))) Tryz.func131 (by decide +kernel) (by kernel_rfl)
def zC5 : List (Nat × Hint) := [(26, .loop ⟨[0, 5, 6], [(7, 0, (.int .i64))], []⟩ [(1, ⟨[2], [], []⟩), (2, ⟨[], [], []⟩)]), (1689, .join [(0, ⟨[0, 5, 6, 7], [(28, 0, .bool)], []⟩)])]
noncomputable def z3u : Ent := mkE tysC 134 [z22, z0t] zC5 Tryz.f134 [(.vw, tyRf)] true .bool
theorem zBD : z3u.Ok Tryz.prog := z09 envC (z03 z6h (z03 z5a z08)) Tryz.func134 (by decide +kernel) (by kernel_rfl)
def zFd : List (Nat × Hint) := [(3, .join [(0, ⟨[], [(4, 0, .bool)], []⟩)])]
noncomputable def z4g : Ent := mkE tysC 113 [z5G, z3u] zFd Tryz.f113 [(.vw, .str), (.vw, tyRf)] true .bool
theorem zEM : z4g.Ok Tryz.prog := z09 envC (z03 zFw (z03 zBD z08)) Tryz.func113 (by decide +kernel) (by kernel_rfl)
def z5X : List (Nat × Hint) := [(3, .join [(0, ⟨[], [(4, 0, .bool)], []⟩)])]
noncomputable def z0w : Ent := mkE tysC 174 [] z5X Tryz.f174 [(.vw, .str), (.vw, .str)] true .bool
theorem z5T : z0w.Ok Tryz.prog := z09 envC z08 Tryz.func174 (by decide +kernel) (by kernel_rfl)
def z9K : List (Nat × Hint) := []
noncomputable def z2y : Ent := mkE tysC 162 [z0w] z9K Tryz.f162 [(.vw, .str), (.vw, .str)] true .bool
theorem z8s : z2y.Ok Tryz.prog := z09 envC (z03 z5T z08) Tryz.func162 (by decide +kernel) (by kernel_rfl)
def zFb : List (Nat × Hint) := [(3, .join [(0, ⟨[], [(4, 0, .bool)], []⟩)])]
noncomputable def z3J : Ent := mkE tysC 135 [z2y] zFb Tryz.f135 [(.vw, .str), (.vw, .str)] true .bool
theorem z8B : z3J.Ok Tryz.prog := z09 envC (z03 z8s z08) Tryz.func135 (by decide +kernel) (by kernel_rfl)
def zNv : List (Nat × Hint) := [(58, .loop ⟨[1, 2, 11, 12], [(7, 0, tyRt), (13, 0, (.int .i64))], []⟩ [(2, ⟨[], [(7, 0, tyRt)], []⟩)]), (467, .join [(0, ⟨[1, 2, 11, 12, 13], [(7, 0, tyRt)], []⟩)]), (3737, .join [(0, ⟨[1, 2, 7, 9, 11, 12, 13], [(30, 0, .bool)], []⟩)]), (0, .frz [6])]
noncomputable def z3V : Ent := mkE tysC 96 [] zNv Tryz.f96 [(.vw, tyRf), (.vw, .str), (.vw, (.int .i64))] true tyRt
theorem z8f : z3V.Ok Tryz.prog := z09 envC z08 Tryz.func96 (by decide +kernel) (by kernel_rfl)
def zDc : List (Nat × Hint) := [(3, .join [(0, ⟨[], [(3, 0, .bool)], []⟩)])]
noncomputable def z3W : Ent := mkE tysC 136 [] zDc Tryz.f136 [(.vw, tyR), (.vw, (.ptr tyR))] true .bool
theorem zCR : z3W.Ok Tryz.prog := z09 envC z08 Tryz.func136 (by decide +kernel) (by kernel_rfl)
def z2O : List (Nat × Hint) := [(26, .loop ⟨[0, 1, 7], [(8, 0, (.int .i64))], []⟩ [(1, ⟨[], [(4, 0, (.int .i64))], []⟩), (2, ⟨[], [], []⟩)])]
noncomputable def z0R : Ent := mkE tysC 129 [z3W] z2O Tryz.f129 [(.vw, tyRf), (.vw, (.fn 136 (.pair (.ptr tyR) .unit)))] true (.int .i64)
theorem z2I : z0R.Ok Tryz.prog := z09 envC (z03 zCR z08) Tryz.func129 (by decide +kernel) (by kernel_rfl)
def z1s : List (Nat × Hint) := []
noncomputable def z0M : Ent := mkE tysC 114 [z0R] z1s Tryz.f114 [(.vw, tyRf), (.vw, (.fn 136 (.pair (.ptr tyR) .unit)))] true .bool
theorem z1n : z0M.Ok Tryz.prog := z09 envC (z03 z2I z08) Tryz.func114 (by decide +kernel) (by kernel_rfl)
def zDd : List (Nat × Hint) := [(7, .join [(0, ⟨[], [(4, 0, .bool)], []⟩)]), (3, .join [(0, ⟨[2, 3], [(5, 0, .bool)], []⟩)])]
noncomputable def z3X : Ent := mkE tysC 137 [z3J] zDd Tryz.f137 [(.vw, tyR), (.vw, (.ptr .str)), (.vw, (.ptr tyR))] true .bool
theorem zCS : z3X.Ok Tryz.prog := z09 envC (z03 z8B z08) Tryz.func137 (by decide +kernel) (by kernel_rfl)
def z2P : List (Nat × Hint) := [(26, .loop ⟨[0, 1, 7], [(8, 0, (.int .i64))], []⟩ [(1, ⟨[], [(4, 0, (.int .i64))], []⟩), (2, ⟨[], [], []⟩)])]
noncomputable def z0S : Ent := mkE tysC 129 [z3X] z2P Tryz.f129 [(.vw, tyRf), (.vw, (.fn 137 (.pair (.ptr .str) (.pair (.ptr tyR) .unit))))] true (.int .i64)
theorem z2J : z0S.Ok Tryz.prog := z09 envC (z03 zCS z08) Tryz.func129 (by decide +kernel) (by kernel_rfl)
def z1t : List (Nat × Hint) := []
noncomputable def z0N : Ent := mkE tysC 114 [z0S] z1t Tryz.f114 [(.vw, tyRf), (.vw, (.fn 137 (.pair (.ptr .str) (.pair (.ptr tyR) .unit))))] true .bool
theorem z1o : z0N.Ok Tryz.prog := z09 envC (z03 z2J z08) Tryz.func114 (by decide +kernel) (by kernel_rfl)
def zHS : List (Nat × Hint) := [(27646, .join [(0, ⟨[], [(8, 0, .bool)], []⟩)]), (6910, .join [(0, ⟨[], [(8, 0, .bool)], []⟩)]), (430, .join [(0, ⟨[], [(8, 0, .bool)], []⟩)])]
noncomputable def z5F : Ent := mkE tysC 116 [z3J, z3V, z0M, z0N] zHS Tryz.f116 [(.vw, .str), (.vw, tyRf), (.vw, tyR), (.vw, (.int .i64))] true .bool
theorem zFv : z5F.Ok Tryz.prog := z09 envC (z03 z8B (z03 z8f (z03 z1n (z03 z1o z08)))) Tryz.func116 (by decide +kernel) (by kernel_rfl)
def zDb : List (Nat × Hint) := []
noncomputable def z3T : Ent := mkE tysC 115 [z5F] zDb Tryz.f115 [(.vw, tyR), (.vw, (.ptr .str)), (.vw, (.ptr tyRf)), (.vw, (.ptr (.int .i64)))] true .bool
theorem zCQ : z3T.Ok Tryz.prog := z09 envC (z03 zFv z08) Tryz.func115 (by decide +kernel) (by kernel_rfl)
def z2N : List (Nat × Hint) := [(26, .loop ⟨[0, 1, 7], [(8, 0, (.int .i64))], []⟩ [(1, ⟨[], [(4, 0, (.int .i64))], []⟩), (2, ⟨[], [], []⟩)])]
noncomputable def z0Q : Ent := mkE tysC 129 [z3T] z2N Tryz.f129 [(.vw, tyRf), (.vw, (.fn 115 (.pair (.ptr .str) (.pair (.ptr tyRf) (.pair (.ptr (.int .i64)) .unit)))))] true (.int .i64)
theorem z2H : z0Q.Ok Tryz.prog := z09 envC (z03 zCQ z08) Tryz.func129 (by decide +kernel) (by kernel_rfl)
def z1r : List (Nat × Hint) := []
noncomputable def z0C : Ent := mkE tysC 114 [z0Q] z1r Tryz.f114 [(.vw, tyRf), (.vw, (.fn 115 (.pair (.ptr .str) (.pair (.ptr tyRf) (.pair (.ptr (.int .i64)) .unit)))))] true .bool
theorem z1m : z0C.Ok Tryz.prog := z09 envC (z03 z2H z08) Tryz.func114 (by decide +kernel) (by kernel_rfl)
def zHR : List (Nat × Hint) := [(58, .loop ⟨[2, 3], [(5, 2, (.int .i64))], []⟩ [(1, ⟨[], [(4, 0, (.int .i64))], []⟩), (2, ⟨[], [], []⟩)]), (932, .join [(0, ⟨[2, 3, 5], [(27, 0, .bool)], []⟩)])]
noncomputable def z3l : Ent := mkE tysC 89 [z4g, z0C, z3V] zHR Tryz.f89 [(.vw, .str), (.vw, tyRf)] true (.int .i64)
theorem z8z : z3l.Ok Tryz.prog := z09 envC (z03 zEM (z03 z1m (z03 z8f z08))) Tryz.func89 (by decide +kernel) (by kernel_rfl)
def zB0 : List (Nat × Hint) := []
noncomputable def z26 : Ent := mkE tysC 97 [z2j] zB0 Tryz.f97 [(.vw, (.int .i64))] true .str
theorem z6i : z26.Ok Tryz.prog := z09 envC (z03 z8G z08) Tryz.func97 (by decide +kernel) (by kernel_rfl)
def zDa : List (Nat × Hint) := [(3, .join [(0, ⟨[], [(2, 0, .bool)], []⟩)])]
noncomputable def z4N : Ent := mkE tysC 66 [z3v, z3l, z3V, z26] zDa Tryz.f66 [(.vw, tyZf)] true .bool
theorem zCP : z4N.Ok Tryz.prog := z09 envC (z03 zBF (z03 z8z (z03 z8f (z03 z6i z08)))) Tryz.func66 (by decide +kernel) (by kernel_rfl)
def zDe : List (Nat × Hint) := [(3, .join [(0, ⟨[], [(4, 0, .bool)], []⟩)])]
noncomputable def z2t : Ent := mkE tysC 49 [z0e] zDe Tryz.f49 [(.vw, (.int .i64)), (.vw, (.int .i64))] true .bool
theorem z7a : z2t.Ok Tryz.prog := z09 envC (z03 z2k z08) Tryz.func49 (by decide +kernel) (by kernel_rfl)
def zDf : List (Nat × Hint) := []
noncomputable def z4O : Ent := mkE tysC 68 [z0e] zDf Tryz.f68 [(.vw, (.int .i64))] true .bool
theorem zCT : z4O.Ok Tryz.prog := z09 envC (z03 z2k z08) Tryz.func68 (by decide +kernel) (by kernel_rfl)
def zA0 : List (Nat × Hint) := [(58, .loop ⟨[1, 22, 23], [(24, 0, (.int .i64))], []⟩ [(1, ⟨[], [(2, 0, .bool)], []⟩), (2, ⟨[], [], []⟩)]), (3737, .join [(0, ⟨[1, 22, 23, 24], [(62, 0, .bool)], []⟩)]), (6, .join [(0, ⟨[1], [(20, 0, .bool)], []⟩)])]
noncomputable def z3D : Ent := mkE tysC 42 [z4N, z0e, z2t, z4O] zA0 Tryz.f42 [(.vw, (.pair tyZf (.pair (.lst false tyD) (.pair (.int .i64) .unit))))] true .bool
theorem z9S : z3D.Ok Tryz.prog := z09 envC (z03 zCP (z03 z2k (z03 z7a (z03 zCT z08)))) Tryz.func42 (by decide +kernel) (by kernel_rfl)
def z4W : List (Nat × Hint) := []
noncomputable def z0K : Ent := mkE tysC 104 [] z4W Tryz.f104 [(.vw, tyRf)] true tyRt
theorem z1H : z0K.Ok Tryz.prog := z09 envC z08 Tryz.func104 (by decide +kernel) (by kernel_rfl)
def zFe : List (Nat × Hint) := []
noncomputable def z4h : Ent := mkE tysC 77 [z0K] zFe Tryz.f77 [(.vw, tyZf)] true tyZt
theorem zEN : z4h.Ok Tryz.prog := z09 envC (z03 z1H z08) Tryz.func77 (by decide +kernel) (by kernel_rfl)
def z58 : List (Nat × Hint) := []
noncomputable def z0q : Ent := mkE tysC 78 [] z58 Tryz.f78 [(.vw, (.lst false tyD))] true (.lst true tyD)
theorem z4z : z0q.Ok Tryz.prog := z09 envC z08 Tryz.func78 (by decide +kernel) (by kernel_rfl)
def zAz : List (Nat × Hint) := []
noncomputable def z3Z : Ent := mkE tysC 50 [z4h, z0q] zAz Tryz.f50 [(.vw, (.pair tyZf (.pair (.lst false tyD) (.pair (.int .i64) .unit))))] true (.pair tyZt (.pair (.lst true tyD) (.pair (.int .i64) .unit)))
theorem zAH : z3Z.Ok Tryz.prog := z09 envC (z03 zEN (z03 z4z z08)) Tryz.func50 (by decide +kernel) (by kernel_rfl)
def z7z : List (Nat × Hint) := []
noncomputable def z1E : Ent := mkE tysC 80 [z1K] z7z Tryz.f80 [(.vw, tyD), (.vw, (.int .i64))] true (.int .i64)
theorem z7k : z1E.Ok Tryz.prog := z09 envC (z03 z5S z08) Tryz.func80 (by decide +kernel) (by kernel_rfl)
def z1O : List (Nat × Hint) := [(31, .join [(0, ⟨[], [(6, 0, (.int .i64)), (7, 0, .bool)], []⟩)]), (60, .loop ⟨[0, 1, 2, 8], [(9, 0, (.int .i64)), (10, 0, (.int .i64))], []⟩ [(2, ⟨[0, 1, 2, 8], [(9, 0, (.int .i64))], []⟩)])]
noncomputable def z0P : Ent := mkE tysC 79 [z1E] z1O Tryz.f79 [(.vw, (.lst false tyD)), (.vw, (.int .i64)), (.vw, (.fn 80 .unit))] false (.pair (.int .i64) (.pair .bool .unit))
theorem z1M : z0P.Ok Tryz.prog := z09 envC (z03 z7k z08) Tryz.func79 (by decide +kernel) (by kernel_rfl)
def z9G : List (Nat × Hint) := []
noncomputable def z2q : Ent := mkE tysC 51 [z0P] z9G Tryz.f51 [(.vw, (.pair tyZf (.pair (.lst false tyD) (.pair (.int .i64) .unit)))), (.vw, (.int .i64))] false (.pair (.int .i64) (.pair .bool .unit))
theorem z8o : z2q.Ok Tryz.prog := z09 envC (z03 z1M z08) Tryz.func51 (by decide +kernel) (by kernel_rfl)
def Tryz.insR52 : Go.Shelf.Ren := ⟨fun | 22 => 52 | 29 => 82 | 30 => 83 | n => n, fun | 0 => 0 | 3 => 3 | 4 => 4 | 9 => 53 | 24 => 27 | n => n, fun n => n⟩
noncomputable def Tryz.insI52 : TypeInfo := (Tryz.prog.info? 53).getD default
noncomputable def Tryz.insZ52 : Value := Tryz.insI52.zero.getD default
theorem Tryz.insL52 : InsL Tryz.prog Tryz.insR52 Tryz.insI52 Tryz.insZ52 := {
 mixed := by kernel_rfl
 f22 := ⟨Tryz.f52.name, by kernel_rfl, Tryz.func52.trans (congrArg some (by kernel_rfl))⟩
 f29 := fun args w => run_callFunc_extern Tryz.func82 (by kernel_rfl) (by kernel_rfl) (by kernel_rfl) (by kernel_rfl) args w
 t0 := Tryz.underlying0
 a0 := Tryz.isAgg0
 z0 := Tryz.sizeOf0
 v0 := Tryz.zeroValue0
 t3 := Tryz.underlying3
 a3 := Tryz.isAgg3
 z3 := Tryz.sizeOf3
 v3 := Tryz.zeroValue3
 t4 := Tryz.underlying4
 a4 := Tryz.isAgg4
 z4 := Tryz.sizeOf4
 v4 := Tryz.zeroValue4
 z9 := Tryz.sizeOf53
 t24 := Tryz.underlying27
 a24 := Tryz.isAgg27
 z24 := Tryz.sizeOf27
 v24 := Tryz.zeroValue27
 i9 := by kernel_rfl
 iz := by kernel_rfl
 is := of_decide_eq_true (by kernel_rfl)
 ic := by kernel_rfl }
noncomputable abbrev z13 : Ent := insE 52 tyD 32
theorem z4s : z13.Ok Tryz.prog := zNw Tryz.insL52 (by kernel_rfl) Tryz.func52 (by decide +kernel) rfl (by kernel_rfl) (by kernel_rfl) rfl rfl rfl
def z9I : List (Nat × Hint) := [(3, .join [(0, ⟨[], [(2, 0, .bool)], []⟩)])]
noncomputable def z23 : Ent := mkE tysC 107 [z0e, z22] z9I Tryz.f107 [(.vw, (.pair (.int .i64) (.pair tyR .unit)))] true .bool
theorem z8q : z23.Ok Tryz.prog := z09 envC (z03 z2k (z03 z6h z08)) Tryz.func107 (by decide +kernel) (by kernel_rfl)
def z1l : List (Nat × Hint) := [(26, .loop ⟨[0, 1, 7], [(8, 0, (.int .i64))], []⟩ [(1, ⟨[], [(4, 0, (.int .i64))], []⟩), (2, ⟨[], [], []⟩)])]
noncomputable def z0L : Ent := mkE tysC 109 [z23] z1l Tryz.f109 [(.vw, (.lst false (.pair (.int .i64) (.pair tyR .unit)))), (.vw, (.fn 107 .unit))] true (.int .i64)
theorem z1h : z0L.Ok Tryz.prog := z09 envC (z03 z8q z08) Tryz.func109 (by decide +kernel) (by kernel_rfl)
def z1a : List (Nat × Hint) := []
noncomputable def z0G : Ent := mkE tysC 85 [z0L] z1a Tryz.f85 [(.vw, (.lst false (.pair (.int .i64) (.pair tyR .unit)))), (.vw, (.fn 107 .unit))] true .bool
theorem z1Z : z0G.Ok Tryz.prog := z09 envC (z03 z1h z08) Tryz.func85 (by decide +kernel) (by kernel_rfl)
def zAx : List (Nat × Hint) := [(3, .join [(0, ⟨[], [(2, 0, .bool)], []⟩)])]
noncomputable def z3U : Ent := mkE tysC 84 [z0G] zAx Tryz.f84 [(.vw, (.lst false (.pair (.int .i64) (.pair tyR .unit))))] true .bool
theorem zAF : z3U.Ok Tryz.prog := z09 envC (z03 z1Z z08) Tryz.func84 (by decide +kernel) (by kernel_rfl)
def zHU : List (Nat × Hint) := [(7, .join [(0, ⟨[], [(4, 0, .bool)], []⟩)])]
noncomputable def z5H : Ent := mkE tysC 87 [z3V] zHU Tryz.f87 [(.vw, tyZf), (.vw, (.pair (.int .i64) (.pair tyR .unit)))] true .bool
theorem zFx : z5H.Ok Tryz.prog := z09 envC (z03 z8f z08) Tryz.func87 (by decide +kernel) (by kernel_rfl)
def zFY : List (Nat × Hint) := []
noncomputable def z4D : Ent := mkE tysC 86 [z5H] zFY Tryz.f86 [(.vw, (.pair (.int .i64) (.pair tyR .unit))), (.vw, (.ptr tyZf))] true .bool
theorem zEI : z4D.Ok Tryz.prog := z09 envC (z03 zFx z08) Tryz.func86 (by decide +kernel) (by kernel_rfl)
def z2U : List (Nat × Hint) := [(26, .loop ⟨[0, 1, 7], [(8, 0, (.int .i64))], []⟩ [(1, ⟨[], [(4, 0, (.int .i64))], []⟩), (2, ⟨[], [], []⟩)])]
noncomputable def z0T : Ent := mkE tysC 109 [z4D] z2U Tryz.f109 [(.vw, (.lst false (.pair (.int .i64) (.pair tyR .unit)))), (.vw, (.fn 86 (.pair (.ptr tyZf) .unit)))] true (.int .i64)
theorem z2Q : z0T.Ok Tryz.prog := z09 envC (z03 zEI z08) Tryz.func109 (by decide +kernel) (by kernel_rfl)
def z28 : List (Nat × Hint) := []
noncomputable def z0O : Ent := mkE tysC 85 [z0T] z28 Tryz.f85 [(.vw, (.lst false (.pair (.int .i64) (.pair tyR .unit)))), (.vw, (.fn 86 (.pair (.ptr tyZf) .unit)))] true .bool
theorem z1u : z0O.Ok Tryz.prog := z09 envC (z03 z2Q z08) Tryz.func85 (by decide +kernel) (by kernel_rfl)
def zC6 : List (Nat × Hint) := [(3, .join [(0, ⟨[], [(3, 0, .bool)], []⟩)])]
noncomputable def z1S : Ent := mkE tysC 111 [] zC6 Tryz.f111 [(.vw, tyR), (.vw, (.ptr tyR))] true .bool
theorem z72 : z1S.Ok Tryz.prog := z09 envC z08 Tryz.func111 (by decide +kernel) (by kernel_rfl)
def z2G : List (Nat × Hint) := [(26, .loop ⟨[0, 1, 7], [(8, 0, (.int .i64))], []⟩ [(1, ⟨[], [(4, 0, (.int .i64))], []⟩), (2, ⟨[], [], []⟩)])]
noncomputable def z0E : Ent := mkE tysC 129 [z1S] z2G Tryz.f129 [(.vw, tyRf), (.vw, (.fn 111 (.pair (.ptr tyR) .unit)))] true (.int .i64)
theorem z2B : z0E.Ok Tryz.prog := z09 envC (z03 z72 z08) Tryz.func129 (by decide +kernel) (by kernel_rfl)
def z29 : List (Nat × Hint) := [(122, .loop ⟨[1], [(0, 0, tyRt), (5, 0, (.int .i64)), (6, 0, (.int .i64))], []⟩ [(2, ⟨[], [(0, 0, tyRt), (5, 0, (.int .i64))], []⟩)]), (489, .join [(0, ⟨[1, 6], [(0, 0, tyRt), (5, 0, (.int .i64))], []⟩)]), (0, .frz [4])]
noncomputable def z0A : Ent := mkE tysC 110 [z0E, z1S] z29 Tryz.f110 [(.own, tyRt), (.vw, (.fn 111 (.pair (.ptr tyR) .unit)))] true tyRt
theorem z1v : z0A.Ok Tryz.prog := z09 envC (z03 z2B (z03 z72 z08)) Tryz.func110 (by decide +kernel) (by kernel_rfl)
def z16 : List (Nat × Hint) := [(31, .join [(0, ⟨[], [(6, 0, (.int .i64)), (7, 0, .bool)], []⟩)]), (60, .loop ⟨[0, 2, 4, 8], [(9, 0, (.int .i64)), (10, 0, (.int .i64))], []⟩ [(2, ⟨[0, 2, 4, 8], [(9, 0, (.int .i64))], []⟩)])]
noncomputable def z07 : Ent := mkE tysC 130 [z0t] z16 Tryz.f130 [(.vw, tyRf), (.vw, tyR), (.vw, (.fn 131 .unit))] false (.pair (.int .i64) (.pair .bool .unit))
theorem z15 : z07.Ok Tryz.prog := z09 envC (z03 z5a z08) Tryz.func130 (by decide +kernel) (by kernel_rfl)
def Tryz.insR132 : Go.Shelf.Ren := ⟨fun | 22 => 132 | 29 => 159 | 30 => 160 | n => n, fun | 0 => 0 | 3 => 3 | 4 => 4 | 9 => 91 | 24 => 24 | n => n, fun n => n⟩
noncomputable def Tryz.insI132 : TypeInfo := (Tryz.prog.info? 91).getD default
noncomputable def Tryz.insZ132 : Value := Tryz.insI132.zero.getD default
theorem Tryz.insL132 : InsL Tryz.prog Tryz.insR132 Tryz.insI132 Tryz.insZ132 := {
 mixed := by kernel_rfl
 f22 := ⟨Tryz.f132.name, by kernel_rfl, Tryz.func132.trans (congrArg some (by kernel_rfl))⟩
 f29 := fun args w => run_callFunc_extern Tryz.func159 (by kernel_rfl) (by kernel_rfl) (by kernel_rfl) (by kernel_rfl) args w
 t0 := Tryz.underlying0
 a0 := Tryz.isAgg0
 z0 := Tryz.sizeOf0
 v0 := Tryz.zeroValue0
 t3 := Tryz.underlying3
 a3 := Tryz.isAgg3
 z3 := Tryz.sizeOf3
 v3 := Tryz.zeroValue3
 t4 := Tryz.underlying4
 a4 := Tryz.isAgg4
 z4 := Tryz.sizeOf4
 v4 := Tryz.zeroValue4
 z9 := Tryz.sizeOf91
 t24 := Tryz.underlying24
 a24 := Tryz.isAgg24
 z24 := Tryz.sizeOf24
 v24 := Tryz.zeroValue24
 i9 := by kernel_rfl
 iz := by kernel_rfl
 is := of_decide_eq_true (by kernel_rfl)
 ic := by kernel_rfl }
noncomputable abbrev z1F : Ent := insE 132 tyR 48
theorem z4K : z1F.Ok Tryz.prog := zNw Tryz.insL132 (by kernel_rfl) Tryz.func132 (by decide +kernel) rfl (by kernel_rfl) (by kernel_rfl) rfl rfl rfl
def zMk : List (Nat × Hint) := [(0, .frz [18, 4])]
noncomputable def z5d : Ent := mkE tysC 112 [z07, z1F] zMk Tryz.f112 [(.own, tyRt), (.vw, tyR)] true tyRt
theorem zLD : z5d.Ok Tryz.prog := z09 envC (z03 z15 (z03 z4K z08)) Tryz.func112 (by decide +kernel) (by kernel_rfl)
def zFZ : List (Nat × Hint) := [(58, .loop ⟨[11, 12], [(5, 0, tyRt), (13, 0, (.int .i64))], []⟩ [(2, ⟨[], [(5, 0, tyRt)], []⟩)]), (467, .join [(0, ⟨[11, 12, 13], [(5, 0, tyRt)], []⟩)]), (7474, .join [(0, ⟨[5, 7, 11, 12, 13], [(24, 0, .bool)], []⟩)]), (0, .frz [4])]
noncomputable def z4d : Ent := mkE tysC 88 [z0K, z0A, z5d] zFZ Tryz.f88 [(.vw, tyRf), (.vw, (.lst false (.pair (.int .i64) (.pair tyR .unit))))] true tyRt
theorem zEJ : z4d.Ok Tryz.prog := z09 envC (z03 z1H (z03 z1v (z03 zLD z08))) Tryz.func88 (by decide +kernel) (by kernel_rfl)
def zFa : List (Nat × Hint) := [(58, .loop ⟨[1, 10], [(5, 0, tyRt), (11, 0, (.int .i64))], []⟩ [(2, ⟨[], [(5, 0, tyRt)], []⟩)]), (467, .join [(0, ⟨[1, 10, 11], [(5, 0, tyRt)], []⟩)]), (0, .frz [4])]
noncomputable def z4e : Ent := mkE tysC 90 [z0K, z26] zFa Tryz.f90 [(.vw, tyRf), (.vw, (.int .i64))] true tyRt
theorem zEK : z4e.Ok Tryz.prog := z09 envC (z03 z1H (z03 z6i z08)) Tryz.func90 (by decide +kernel) (by kernel_rfl)
def zJI : List (Nat × Hint) := [(124, .join [(0, ⟨[4, 6], [(25, 0, .bool)], []⟩)])]
noncomputable def z52 : Ent := mkE tysC 53 [z3U, z0O, z4d, z3l, z4e] zJI Tryz.f53 [(.vw, tyZf), (.vw, (.lst false (.pair (.int .i64) (.pair tyR .unit))))] false (.pair tyZt (.pair (.int .i64) .unit))
theorem zHs : z52.Ok Tryz.prog := z09 envC (z03 zAF (z03 z1u (z03 zEJ (z03 z8z (z03 zEK z08))))) Tryz.func53 (by decide +kernel) (by kernel_rfl)
def z9H : List (Nat × Hint) := [(127, .join [(0, ⟨[3, 4, 5, 8, 11], [(7, 2, (.pair tyZt (.pair (.lst true tyD) (.pair (.int .i64) .unit))))], []⟩)]), (31, .join [(0, ⟨[3, 4, 5, 8], [(7, 2, (.pair tyZt (.pair (.lst true tyD) (.pair (.int .i64) .unit))))], []⟩), (1, ⟨[], [(4, 2, (.pair tyZt (.pair (.lst true tyD) (.pair (.int .i64) .unit)))), (5, 2, tyD), (6, 0, .bool)], []⟩)]), (499, .join [(0, ⟨[3, 4, 5, 7, 8, 9], [(49, 0, .bool)], []⟩)]), (3995, .join [(0, ⟨[2, 3, 4, 5, 7, 8, 9], [(49, 0, .bool)], []⟩)]), (998, .join [(0, ⟨[2, 3, 4, 5, 7, 8, 9], [(49, 0, .bool)], []⟩)]), (124, .join [(0, ⟨[2, 3, 4, 5, 7, 8, 9], [(30, 0, .bool)], []⟩)]), (0, .frz [82])]
noncomputable def z2r : Ent := mkE tysC 30 [z2t, z3Z, z2q, z13, z52] z9H Tryz.f30 [(.vw, (.pair tyZf (.pair (.lst false tyD) (.pair (.int .i64) .unit)))), (.vw, (.pair (.int .i64) (.pair (.int .i64) (.pair (.lst false (.pair (.int .i64) (.pair tyR .unit))) .unit))))] false (.pair (.pair tyZt (.pair (.lst true tyD) (.pair (.int .i64) .unit))) (.pair tyD (.pair .bool .unit)))
theorem z8p : z2r.Ok Tryz.prog := z09 envC (z03 z7a (z03 zAH (z03 z8o (z03 z4s (z03 zHs z08))))) Tryz.func30 (by decide +kernel) (by kernel_rfl)
def zC4 : List (Nat × Hint) := []
noncomputable def z3A : Ent := mkE tysC 22 [z3D, z2r] zC4 Tryz.f22 [(.vw, (.pair tyZf (.pair (.lst false tyD) (.pair (.int .i64) .unit)))), (.vw, (.pair (.int .i64) (.pair (.int .i64) (.pair (.lst false (.pair (.int .i64) (.pair tyR .unit))) .unit))))] false (.pair (.pair tyZt (.pair (.lst true tyD) (.pair (.int .i64) .unit))) (.pair tyD (.pair .bool .unit)))
theorem zBC : z3A.Ok Tryz.prog := z09 envC (z03 z9S (z03 z8p z08)) Tryz.func22 (by decide +kernel) (by kernel_rfl)
def zDk : List (Nat × Hint) := []
noncomputable def z2u : Ent := mkE tysC 91 [] zDk Tryz.f91 [(.vw, tyR), (.vw, tyR)] true .bool
theorem z7b : z2u.Ok Tryz.prog := z09 envC z08 Tryz.func91 (by decide +kernel) (by kernel_rfl)
def zCB : List (Nat × Hint) := [(58, .loop ⟨[0, 1], [(5, 0, (.int .i64))], []⟩ [(1, ⟨[4], [], []⟩), (2, ⟨[], [], []⟩)])]
noncomputable def z3x : Ent := mkE tysC 54 [z2u] zCB Tryz.f54 [(.vw, tyRf), (.vw, tyRf)] true .bool
theorem zBI : z3x.Ok Tryz.prog := z09 envC (z03 z7b z08) Tryz.func54 (by decide +kernel) (by kernel_rfl)
def zHX : List (Nat × Hint) := []
noncomputable def z5I : Ent := mkE tysC 31 [z3x] zHX Tryz.f31 [(.vw, tyZf), (.vw, tyZf)] true .bool
theorem zFy : z5I.Ok Tryz.prog := z09 envC (z03 zBI z08) Tryz.func31 (by decide +kernel) (by kernel_rfl)
def zHW : List (Nat × Hint) := []
noncomputable def z2F : Ent := mkE tysC 23 [] zHW Tryz.f23 [(.vw, tyD), (.vw, tyD)] true .bool
theorem z90 : z2F.Ok Tryz.prog := z09 envC z08 Tryz.func23 (by decide +kernel) (by kernel_rfl)
def zFg : List (Nat × Hint) := [(58, .loop ⟨[0, 1], [(5, 0, (.int .i64))], []⟩ [(1, ⟨[4], [], []⟩), (2, ⟨[], [], []⟩)])]
noncomputable def z4j : Ent := mkE tysC 10 [z2F] zFg Tryz.f10 [(.vw, (.lst false tyD)), (.vw, (.lst false tyD))] true .bool
theorem zEP : z4j.Ok Tryz.prog := z09 envC (z03 z90 z08) Tryz.func10 (by decide +kernel) (by kernel_rfl)
def zCA : List (Nat × Hint) := []
noncomputable def z1T : Ent := mkE tysC 9 [z5I, z4j] zCA Tryz.f9 [(.vw, (.pair tyZf (.pair (.lst false tyD) (.pair (.int .i64) .unit)))), (.vw, (.pair tyZf (.pair (.lst false tyD) (.pair (.int .i64) .unit))))] true .bool
theorem zBH : z1T.Ok Tryz.prog := z09 envC (z03 zFy (z03 zEP z08)) Tryz.func9 (by decide +kernel) (by kernel_rfl)
def zDj : List (Nat × Hint) := []
noncomputable def z3a : Ent := mkE tysC 69 [z2u] zDj Tryz.f69 [(.vw, (.pair (.int .i64) (.pair tyR .unit))), (.vw, (.pair (.int .i64) (.pair tyR .unit)))] true .bool
theorem zCW : z3a.Ok Tryz.prog := z09 envC (z03 z7b z08) Tryz.func69 (by decide +kernel) (by kernel_rfl)
def zC9 : List (Nat × Hint) := [(58, .loop ⟨[0, 1], [(5, 0, (.int .i64))], []⟩ [(1, ⟨[4], [], []⟩), (2, ⟨[], [], []⟩)])]
noncomputable def z3w : Ent := mkE tysC 43 [z3a] zC9 Tryz.f43 [(.vw, (.lst false (.pair (.int .i64) (.pair tyR .unit)))), (.vw, (.lst false (.pair (.int .i64) (.pair tyR .unit))))] true .bool
theorem zBG : z3w.Ok Tryz.prog := z09 envC (z03 zCW z08) Tryz.func43 (by decide +kernel) (by kernel_rfl)
def zFf : List (Nat × Hint) := []
noncomputable def z4i : Ent := mkE tysC 24 [z3w] zFf Tryz.f24 [(.vw, (.pair (.int .i64) (.pair (.int .i64) (.pair (.lst false (.pair (.int .i64) (.pair tyR .unit))) .unit)))), (.vw, (.pair (.int .i64) (.pair (.int .i64) (.pair (.lst false (.pair (.int .i64) (.pair tyR .unit))) .unit))))] true .bool
theorem zEO : z4i.Ok Tryz.prog := z09 envC (z03 zBG z08) Tryz.func24 (by decide +kernel) (by kernel_rfl)
def zDm : List (Nat × Hint) := [(60, .loop ⟨[], [(0, 0, (.int .i64)), (3, 0, .str)], []⟩ [(2, ⟨[], [(3, 0, .str)], []⟩)])]
noncomputable def z0m : Ent := mkE tysC 55 [] zDm Tryz.f55 [(.vw, (.int .i64))] true .str
theorem z6B : z0m.Ok Tryz.prog := z09 envC z08 Tryz.func55 (by decide +kernel) (by kernel_rfl)
def zA6 : List (Nat × Hint) := [(26, .loop ⟨[], [(0, 0, tyRt), (1, 0, (.int .i64)), (5, 0, (.int .i64))], []⟩ [(2, ⟨[], [(0, 0, tyRt), (1, 0, (.int .i64))], []⟩)])]
noncomputable def z3G : Ent := mkE tysC 56 [z0m] zA6 Tryz.f56 [(.io, tyRt), (.vw, (.int .i64))] true (.int .i64)
theorem z9Y : z3G.Ok Tryz.prog := z09 envC (z03 z6B z08) Tryz.func56 (by decide +kernel) (by kernel_rfl)
def zDn : List (Nat × Hint) := []
noncomputable def z4Q : Ent := mkE tysC 33 [z3G] zDn Tryz.f33 [(.io, tyZt), (.vw, (.int .i64))] true (.int .i64)
theorem zCY : z4Q.Ok Tryz.prog := z09 envC (z03 z9Y z08) Tryz.func33 (by decide +kernel) (by kernel_rfl)
def zCE : List (Nat × Hint) := [(26, .loop ⟨[], [(0, 0, (.lst true tyD)), (1, 0, (.int .i64)), (5, 0, (.int .i64))], []⟩ [(2, ⟨[], [(0, 0, (.lst true tyD)), (1, 0, (.int .i64))], []⟩)])]
noncomputable def z40 : Ent := mkE tysC 14 [] zCE Tryz.f14 [(.io, (.lst true tyD)), (.vw, (.int .i64))] true (.int .i64)
theorem zBL : z40.Ok Tryz.prog := z09 envC z08 Tryz.func14 (by decide +kernel) (by kernel_rfl)
def zA5 : List (Nat × Hint) := []
noncomputable def z2a : Ent := mkE tysC 13 [z4Q, z40] zA5 Tryz.f13 [(.io, (.pair tyZt (.pair (.lst true tyD) (.pair (.int .i64) .unit)))), (.vw, (.int .i64))] true (.int .i64)
theorem z9X : z2a.Ok Tryz.prog := z09 envC (z03 zCY (z03 zBL z08)) Tryz.func13 (by decide +kernel) (by kernel_rfl)
def zA4 : List (Nat × Hint) := [(26, .loop ⟨[], [(0, 0, (.lst true (.pair (.int .i64) (.pair tyR .unit)))), (1, 0, (.int .i64)), (5, 0, (.int .i64))], []⟩ [(2, ⟨[], [(0, 0, (.lst true (.pair (.int .i64) (.pair tyR .unit)))), (1, 0, (.int .i64))], []⟩)])]
noncomputable def z2Z : Ent := mkE tysC 32 [z0m] zA4 Tryz.f32 [(.io, (.lst true (.pair (.int .i64) (.pair tyR .unit)))), (.vw, (.int .i64))] true (.int .i64)
theorem z9W : z2Z.Ok Tryz.prog := z09 envC (z03 z6B z08) Tryz.func32 (by decide +kernel) (by kernel_rfl)
def zCD : List (Nat × Hint) := []
noncomputable def z3z : Ent := mkE tysC 25 [z2Z] zCD Tryz.f25 [(.io, (.pair (.int .i64) (.pair (.int .i64) (.pair (.lst true (.pair (.int .i64) (.pair tyR .unit))) .unit)))), (.vw, (.int .i64))] true (.int .i64)
theorem zBK : z3z.Ok Tryz.prog := z09 envC (z03 z9W z08) Tryz.func25 (by decide +kernel) (by kernel_rfl)
def zA3 : List (Nat × Hint) := [(26, .loop ⟨[0], [(1, 0, (.int .i64)), (5, 0, (.int .i64))], []⟩ [(1, ⟨[], [(4, 0, (.int .i64))], []⟩), (2, ⟨[], [(1, 0, (.int .i64))], []⟩)])]
noncomputable def z3F : Ent := mkE tysC 57 [z0m] zA3 Tryz.f57 [(.vw, tyRf), (.vw, (.int .i64))] true (.int .i64)
theorem z9V : z3F.Ok Tryz.prog := z09 envC (z03 z6B z08) Tryz.func57 (by decide +kernel) (by kernel_rfl)
def zDl : List (Nat × Hint) := []
noncomputable def z4P : Ent := mkE tysC 34 [z3F] zDl Tryz.f34 [(.vw, tyZf), (.vw, (.int .i64))] true (.int .i64)
theorem zCX : z4P.Ok Tryz.prog := z09 envC (z03 z9V z08) Tryz.func34 (by decide +kernel) (by kernel_rfl)
def zCC : List (Nat × Hint) := [(26, .loop ⟨[0], [(1, 0, (.int .i64)), (5, 0, (.int .i64))], []⟩ [(1, ⟨[], [(4, 0, (.int .i64))], []⟩), (2, ⟨[], [(1, 0, (.int .i64))], []⟩)])]
noncomputable def z3y : Ent := mkE tysC 16 [] zCC Tryz.f16 [(.vw, (.lst false tyD)), (.vw, (.int .i64))] true (.int .i64)
theorem zBJ : z3y.Ok Tryz.prog := z09 envC z08 Tryz.func16 (by decide +kernel) (by kernel_rfl)
def zA2 : List (Nat × Hint) := []
noncomputable def z2Y : Ent := mkE tysC 15 [z4P, z3y] zA2 Tryz.f15 [(.vw, (.pair tyZf (.pair (.lst false tyD) (.pair (.int .i64) .unit)))), (.vw, (.int .i64))] true (.int .i64)
theorem z9U : z2Y.Ok Tryz.prog := z09 envC (z03 zCX (z03 zBJ z08)) Tryz.func15 (by decide +kernel) (by kernel_rfl)
def z7I : List (Nat × Hint) := [(67108862, .join [(0, ⟨[11, 15], [(134, 0, .bool)], []⟩)]), (262142, .join [(0, ⟨[2, 3, 6, 7, 8, 11], [(99, 0, .bool)], []⟩)]), (4094, .join [(0, ⟨[2, 3, 6, 7, 8, 9, 10, 11, 12, 13], [(64, 0, .bool)], []⟩)])]
noncomputable def z3m : Ent := mkE tysC 4 [z42, z4k, z1i, z2g, z47, z3A, z1T, z2F, z4i, z2a, z3z, z2Y] z7I Tryz.f4 [(.vw, (.pair tyZf (.pair (.lst false tyD) (.pair (.int .i64) .unit)))), (.vw, (.pair (.int .i64) (.pair (.int .i64) (.pair (.lst false (.pair (.int .i64) (.pair tyR .unit))) .unit))))] true .bool
theorem z73 : z3m.Ok Tryz.prog := z09 envC (z03 zBN (z03 zEQ (z03 zBQ (z03 zES (z03 zBT (z03 zBC (z03 zBH (z03 z90 (z03 zEO (z03 z9X (z03 zBK (z03 z9U z08)))))))))))) Tryz.func4 (by decide +kernel) (by kernel_rfl)
end Go.Proofs.YtllbponcjpcbnaaGreatDoor
