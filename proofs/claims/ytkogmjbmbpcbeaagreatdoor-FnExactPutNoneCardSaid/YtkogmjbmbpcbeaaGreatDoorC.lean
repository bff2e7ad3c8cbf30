/- The functions that the law reaches, each as a program of expressions. -/
import Derived.Test.YtkogmjbmbpcbeaaGreatDoorLb1
import Derived.Test.YtkogmjbmbpcbeaaGreatDoorProg
import Derived.KernelRfl
import Derived.Test.YtkogmjbmbpcbeaaGreatDoorLays
set_option linter.unusedSectionVars false
set_option linter.unusedVariables false
set_option linter.unusedSimpArgs false
namespace Go.Proofs.YtkogmjbmbpcbeaaGreatDoor
open Go Go.Own
set_option maxRecDepth 100000
instance glbI : Glb := Glb.at [(0, zKe .i64), (3, zIP), (4, zIP), (5, zKd (Lib.pow10Tab.map fun z => Value.int .u64 z).toArray)]
theorem zBF : ∀ h V, Glb.ok h V → ∃ m arr ty fz, h[Tryz.l146_ren.g 1]? = some (.cells arr ty fz) ∧ arr[0]? = some (.int .i64 m) :=
 fun _ _ h => zJM (h (0, zKe .i64) (by simp)).2
theorem zMO : ∀ h V, Glb.ok h V → ∃ ev arr ty fz, h[Tryz.l172_ren.g 15]? = some (.cells arr ty fz) ∧ arr[0]? = some ev ∧ (ev = .nilIface ∨ ∃ te pe, ev = .iface te pe) :=
 fun _ _ h => zFb (h (3, zIP) (by simp)).2
theorem zMN : ∀ h V, Glb.ok h V → ∃ ev arr ty fz, h[Tryz.l172_ren.g 16]? = some (.cells arr ty fz) ∧ arr[0]? = some ev ∧ (ev = .nilIface ∨ ∃ te pe, ev = .iface te pe) :=
 fun _ _ h => zFb (h (4, zIP) (by simp)).2
theorem zMM : ∀ h V, Glb.ok h V → ∃ ty fz, h[5]? = some (.cells (Lib.pow10Tab.map fun z => Value.int .u64 z).toArray ty fz) :=
 fun _ _ h => zJL (h (5, zKd (Lib.pow10Tab.map fun z => Value.int .u64 z).toArray) (by simp)).2
abbrev tyR : T := .pair .str (.pair (.int .i64) (.pair (.int .i64) (.pair .str .unit)))
abbrev tyD : T := .pair (.int .i64) (.pair (.int .i64) (.pair (.int .i64) (.pair (.int .i64) .unit)))
abbrev tyRf : T := .lst false tyR
abbrev tyRt : T := .lst true tyR
abbrev tyZf : T := .pair .str (.pair (.int .i64) (.pair tyRf .unit))
abbrev tyZt : T := .pair .str (.pair (.int .i64) (.pair tyRt .unit))
def tysC : List (TypeId × T × Nat) := [(3, (.int .i64), 0), (4, .bool, 0), (5, (.int .u8), 0), (9, .str, 0), (22, (.lst true (.pair .str (.pair (.int .i64) (.pair .bool (.pair tyRt (.pair (.int .i64) (.pair (.int .i64) .unit))))))), 72), (24, (.pair (.int .i64) (.pair (.lst true (.pair .str (.pair (.int .i64) (.pair .bool (.pair tyRt (.pair (.int .i64) (.pair (.int .i64) .unit))))))) .unit)), 0), (25, tyRt, 48), (28, (.lst true (.pair .str (.pair (.int .i64) (.pair .bool (.pair tyRt (.pair (.int .i64) (.pair (.int .i64) .unit))))))), 72), (30, (.pair (.int .i64) (.pair (.lst true (.pair .str (.pair (.int .i64) (.pair .bool (.pair tyRt (.pair (.int .i64) (.pair (.int .i64) .unit))))))) .unit)), 0), (34, tyRt, 48), (46, tyR, 0), (49, tyR, 0), (53, (.pair .str (.pair (.int .i64) (.pair .bool (.pair tyRt (.pair (.int .i64) (.pair (.int .i64) .unit)))))), 0), (67, (.pair .str (.pair (.int .i64) (.pair .bool (.pair tyRt (.pair (.int .i64) (.pair (.int .i64) .unit)))))), 0), (80, (.lst true (.int .u8)), 1), (81, (.lst true .str), 16), (85, (.lst true (.int .i64)), 8), (109, (.int .u64), 0), (128, .err, 0)]
theorem envC : ∀ sig n fx fr, EnvOk Tryz.prog ⟨tyOf tysC, ebOf tysC, sig, n, fx, fr⟩ := by
 refine EnvOk.ofL (fun sig n fx fr t ht => ?_) (by kernel_rfl)
 simp only [tysC, List.map_cons, List.map_nil, List.mem_cons] at ht
 rcases ht with rfl | ht
 ·exact ⟨Tryz.underlying3, rfl, by kernel_rfl, by kernel_rfl⟩
 rcases ht with rfl | ht
 ·exact ⟨Tryz.underlying4, rfl, by kernel_rfl, by kernel_rfl⟩
 rcases ht with rfl | ht
 ·exact ⟨Tryz.underlying5, rfl, by kernel_rfl, by kernel_rfl⟩
 rcases ht with rfl | ht
 ·exact ⟨Tryz.underlying9, rfl, by kernel_rfl, by kernel_rfl⟩
 rcases ht with rfl | ht
 ·exact ⟨⟨rfl, _, Tryz.underlying22, rfl, rfl, by kernel_rfl⟩, rfl, by kernel_rfl, by kernel_rfl⟩
 rcases ht with rfl | ht
 ·exact ⟨⟨_, Tryz.underlying24, rfl, rfl, rfl, rfl, rfl, rfl, trivial⟩, rfl, by kernel_rfl, by kernel_rfl⟩
 rcases ht with rfl | ht
 ·exact ⟨⟨rfl, _, Tryz.underlying25, rfl, rfl, by kernel_rfl⟩, rfl, by kernel_rfl, by kernel_rfl⟩
 rcases ht with rfl | ht
 ·exact ⟨⟨rfl, _, Tryz.underlying28, rfl, rfl, by kernel_rfl⟩, rfl, by kernel_rfl, by kernel_rfl⟩
 rcases ht with rfl | ht
 ·exact ⟨⟨_, Tryz.underlying30, rfl, rfl, rfl, rfl, rfl, rfl, trivial⟩, rfl, by kernel_rfl, by kernel_rfl⟩
 rcases ht with rfl | ht
 ·exact ⟨⟨rfl, _, Tryz.underlying34, rfl, rfl, by kernel_rfl⟩, rfl, by kernel_rfl, by kernel_rfl⟩
 rcases ht with rfl | ht
 ·exact ⟨⟨_, Tryz.underlying46, rfl, rfl, rfl, rfl, rfl, rfl, rfl, rfl, rfl, rfl, rfl, rfl, trivial⟩, rfl, by kernel_rfl, by kernel_rfl⟩
 rcases ht with rfl | ht
 ·exact ⟨⟨_, Tryz.underlying49, rfl, rfl, rfl, rfl, rfl, rfl, rfl, rfl, rfl, rfl, rfl, rfl, trivial⟩, rfl, by kernel_rfl, by kernel_rfl⟩
 rcases ht with rfl | ht
 ·exact ⟨⟨_, Tryz.underlying53, rfl, rfl, rfl, rfl, rfl, rfl, rfl, rfl, rfl, rfl, rfl, rfl, rfl, rfl, rfl, rfl, rfl, rfl, trivial⟩, rfl, by kernel_rfl, by kernel_rfl⟩
 rcases ht with rfl | ht
 ·exact ⟨⟨_, Tryz.underlying67, rfl, rfl, rfl, rfl, rfl, rfl, rfl, rfl, rfl, rfl, rfl, rfl, rfl, rfl, rfl, rfl, rfl, rfl, trivial⟩, rfl, by kernel_rfl, by kernel_rfl⟩
 rcases ht with rfl | ht
 ·exact ⟨⟨rfl, _, Tryz.underlying80, rfl, rfl, by kernel_rfl⟩, rfl, by kernel_rfl, by kernel_rfl⟩
 rcases ht with rfl | ht
 ·exact ⟨⟨rfl, _, Tryz.underlying81, rfl, rfl, by kernel_rfl⟩, rfl, by kernel_rfl, by kernel_rfl⟩
 rcases ht with rfl | ht
 ·exact ⟨⟨rfl, _, Tryz.underlying85, rfl, rfl, by kernel_rfl⟩, rfl, by kernel_rfl, by kernel_rfl⟩
 rcases ht with rfl | ht
 ·exact ⟨Tryz.underlying109, rfl, by kernel_rfl, by kernel_rfl⟩
 rcases ht with rfl | ht
 ·exact ⟨⟨_, Tryz.underlying128⟩, rfl, by kernel_rfl, by kernel_rfl⟩
 cases ht
def tysZ : List (TypeId × T × Nat) := [(3, (.int .i64), 0), (4, .bool, 0), (5, (.int .u8), 0), (9, .str, 0), (22, (.lst true (.pair .str (.pair (.int .i64) (.pair .bool (.pair tyRf (.pair (.int .i64) (.pair (.int .i64) .unit))))))), 72), (24, (.pair (.int .i64) (.pair (.lst true (.pair .str (.pair (.int .i64) (.pair .bool (.pair tyRf (.pair (.int .i64) (.pair (.int .i64) .unit))))))) .unit)), 0), (25, tyRf, 48), (28, (.lst true (.pair .str (.pair (.int .i64) (.pair .bool (.pair tyRf (.pair (.int .i64) (.pair (.int .i64) .unit))))))), 72), (30, (.pair (.int .i64) (.pair (.lst true (.pair .str (.pair (.int .i64) (.pair .bool (.pair tyRf (.pair (.int .i64) (.pair (.int .i64) .unit))))))) .unit)), 0), (34, tyRf, 48), (46, tyR, 0), (49, tyR, 0), (53, (.pair .str (.pair (.int .i64) (.pair .bool (.pair tyRf (.pair (.int .i64) (.pair (.int .i64) .unit)))))), 0), (67, (.pair .str (.pair (.int .i64) (.pair .bool (.pair tyRf (.pair (.int .i64) (.pair (.int .i64) .unit)))))), 0), (80, (.lst true (.int .u8)), 1), (81, (.lst true .str), 16), (85, (.lst true (.int .i64)), 8), (109, (.int .u64), 0), (128, .err, 0)]
theorem envZ : ∀ sig n fx fr, EnvOk Tryz.prog ⟨tyOf tysZ, ebOf tysZ, sig, n, fx, fr⟩ := by
 refine EnvOk.ofL (fun sig n fx fr t ht => ?_) (by kernel_rfl)
 simp only [tysZ, List.map_cons, List.map_nil, List.mem_cons] at ht
 rcases ht with rfl | ht
 ·exact ⟨Tryz.underlying3, rfl, by kernel_rfl, by kernel_rfl⟩
 rcases ht with rfl | ht
 ·exact ⟨Tryz.underlying4, rfl, by kernel_rfl, by kernel_rfl⟩
 rcases ht with rfl | ht
 ·exact ⟨Tryz.underlying5, rfl, by kernel_rfl, by kernel_rfl⟩
 rcases ht with rfl | ht
 ·exact ⟨Tryz.underlying9, rfl, by kernel_rfl, by kernel_rfl⟩
 rcases ht with rfl | ht
 ·exact ⟨⟨rfl, _, Tryz.underlying22, rfl, rfl, by kernel_rfl⟩, rfl, by kernel_rfl, by kernel_rfl⟩
 rcases ht with rfl | ht
 ·exact ⟨⟨_, Tryz.underlying24, rfl, rfl, rfl, rfl, rfl, rfl, trivial⟩, rfl, by kernel_rfl, by kernel_rfl⟩
 rcases ht with rfl | ht
 ·exact ⟨⟨rfl, _, Tryz.underlying25, rfl, rfl, by kernel_rfl⟩, rfl, by kernel_rfl, by kernel_rfl⟩
 rcases ht with rfl | ht
 ·exact ⟨⟨rfl, _, Tryz.underlying28, rfl, rfl, by kernel_rfl⟩, rfl, by kernel_rfl, by kernel_rfl⟩
 rcases ht with rfl | ht
 ·exact ⟨⟨_, Tryz.underlying30, rfl, rfl, rfl, rfl, rfl, rfl, trivial⟩, rfl, by kernel_rfl, by kernel_rfl⟩
 rcases ht with rfl | ht
 ·exact ⟨⟨rfl, _, Tryz.underlying34, rfl, rfl, by kernel_rfl⟩, rfl, by kernel_rfl, by kernel_rfl⟩
 rcases ht with rfl | ht
 ·exact ⟨⟨_, Tryz.underlying46, rfl, rfl, rfl, rfl, rfl, rfl, rfl, rfl, rfl, rfl, rfl, rfl, trivial⟩, rfl, by kernel_rfl, by kernel_rfl⟩
 rcases ht with rfl | ht
 ·exact ⟨⟨_, Tryz.underlying49, rfl, rfl, rfl, rfl, rfl, rfl, rfl, rfl, rfl, rfl, rfl, rfl, trivial⟩, rfl, by kernel_rfl, by kernel_rfl⟩
 rcases ht with rfl | ht
 ·exact ⟨⟨_, Tryz.underlying53, rfl, rfl, rfl, rfl, rfl, rfl, rfl, rfl, rfl, rfl, rfl, rfl, rfl, rfl, rfl, rfl, rfl, rfl, trivial⟩, rfl, by kernel_rfl, by kernel_rfl⟩
 rcases ht with rfl | ht
 ·exact ⟨⟨_, Tryz.underlying67, rfl, rfl, rfl, rfl, rfl, rfl, rfl, rfl, rfl, rfl, rfl, rfl, rfl, rfl, rfl, rfl, rfl, rfl, trivial⟩, rfl, by kernel_rfl, by kernel_rfl⟩
 rcases ht with rfl | ht
 ·exact ⟨⟨rfl, _, Tryz.underlying80, rfl, rfl, by kernel_rfl⟩, rfl, by kernel_rfl, by kernel_rfl⟩
 rcases ht with rfl | ht
 ·exact ⟨⟨rfl, _, Tryz.underlying81, rfl, rfl, by kernel_rfl⟩, rfl, by kernel_rfl, by kernel_rfl⟩
 rcases ht with rfl | ht
 ·exact ⟨⟨rfl, _, Tryz.underlying85, rfl, rfl, by kernel_rfl⟩, rfl, by kernel_rfl, by kernel_rfl⟩
 rcases ht with rfl | ht
 ·exact ⟨Tryz.underlying109, rfl, by kernel_rfl, by kernel_rfl⟩
 rcases ht with rfl | ht
 ·exact ⟨⟨_, Tryz.underlying128⟩, rfl, by kernel_rfl, by kernel_rfl⟩
 cases ht
def zBT : List (Nat × Hint) := []
noncomputable def z3J : Ent := mkE tysC 19 [] zBT Tryz.f19 [(.vw, tyR), (.vw, (.int .i64))] true (.int .i64)
theorem zAS : z3J.Ok Tryz.prog := z0E envC z0F Tryz.func19 (by decide +kernel) (by kernel_rfl)
def zAD : List (Nat × Hint) := [(122, .loop ⟨[0], [(1, 0, (.int .i64)), (5, 0, (.int .i64))], []⟩ [(1, ⟨[], [(4, 0, (.int .i64))], []⟩), (2, ⟨[], [(1, 0, (.int .i64))], []⟩)])]
noncomputable def z1l : Ent := mkE tysC 6 [z3J] zAD Tryz.f6 [(.vw, tyRf), (.vw, (.int .i64))] true (.int .i64)
theorem z5d : z1l.Ok Tryz.prog := z0E envC (z05 zAS z0F) Tryz.func6 (by decide +kernel) (by kernel_rfl)
def zCx : List (Nat × Hint) := []
noncomputable def z32 : Ent := mkE tysC 41 [z1l] zCx Tryz.f41 [(.vw, (.pair .str (.pair (.int .i64) (.pair .bool (.pair tyRf (.pair (.int .i64) (.pair (.int .i64) .unit))))))), (.vw, (.int .i64))] true (.int .i64)
theorem zBx : z32.Ok Tryz.prog := z0E envC (z05 z5d z0F) Tryz.func41 (by decide +kernel) (by kernel_rfl)
def zBS : List (Nat × Hint) := [(122, .loop ⟨[0], [(1, 0, (.int .i64)), (5, 0, (.int .i64))], []⟩ [(1, ⟨[], [(4, 0, (.int .i64))], []⟩), (2, ⟨[], [(1, 0, (.int .i64))], []⟩)])]
noncomputable def z3I : Ent := mkE tysC 18 [z32] zBS Tryz.f18 [(.vw, (.lst false (.pair .str (.pair (.int .i64) (.pair .bool (.pair tyRf (.pair (.int .i64) (.pair (.int .i64) .unit)))))))), (.vw, (.int .i64))] true (.int .i64)
theorem zAR : z3I.Ok Tryz.prog := z0E envC (z05 zBx z0F) Tryz.func18 (by decide +kernel) (by kernel_rfl)
def zCw : List (Nat × Hint) := []
noncomputable def z1u : Ent := mkE tysC 5 [z3I] zCw Tryz.f5 [(.vw, (.pair (.int .i64) (.pair (.lst false (.pair .str (.pair (.int .i64) (.pair .bool (.pair tyRf (.pair (.int .i64) (.pair (.int .i64) .unit))))))) .unit))), (.vw, (.int .i64))] true (.int .i64)
theorem z6h : z1u.Ok Tryz.prog := z0E envC (z05 zAR z0F) Tryz.func5 (by decide +kernel) (by kernel_rfl)
def zBV : List (Nat × Hint) := []
noncomputable def z3L : Ent := mkE tysC 25 [] zBV Tryz.f25 [(.vw, tyR)] true tyR
theorem zAU : z3L.Ok Tryz.prog := z0E envC z0F Tryz.func25 (by decide +kernel) (by kernel_rfl)
def zAE : List (Nat × Hint) := [(58, .loop ⟨[0], [(3, 0, tyRt), (4, 0, (.int .i64))], []⟩ [(2, ⟨[], [(3, 0, tyRt)], []⟩)]), (0, .frz [2])]
noncomputable def z0l : Ent := mkE tysC 9 [z3L] zAE Tryz.f9 [(.vw, tyRf)] true tyRt
theorem z47 : z0l.Ok Tryz.prog := z0E envC (z05 zAU z0F) Tryz.func9 (by decide +kernel) (by kernel_rfl)
def zCz : List (Nat × Hint) := []
noncomputable def z33 : Ent := mkE tysC 46 [z0l] zCz Tryz.f46 [(.vw, (.pair .str (.pair (.int .i64) (.pair .bool (.pair tyRf (.pair (.int .i64) (.pair (.int .i64) .unit)))))))] true (.pair .str (.pair (.int .i64) (.pair .bool (.pair tyRt (.pair (.int .i64) (.pair (.int .i64) .unit))))))
theorem zBy : z33.Ok Tryz.prog := z0E envC (z05 z47 z0F) Tryz.func46 (by decide +kernel) (by kernel_rfl)
def zBU : List (Nat × Hint) := [(58, .loop ⟨[0], [(3, 0, (.lst true (.pair .str (.pair (.int .i64) (.pair .bool (.pair tyRt (.pair (.int .i64) (.pair (.int .i64) .unit)))))))), (4, 0, (.int .i64))], []⟩ [(2, ⟨[], [(3, 0, (.lst true (.pair .str (.pair (.int .i64) (.pair .bool (.pair tyRt (.pair (.int .i64) (.pair (.int .i64) .unit))))))))], []⟩)]), (0, .frz [2])]
noncomputable def z3K : Ent := mkE tysC 24 [z33] zBU Tryz.f24 [(.vw, (.lst false (.pair .str (.pair (.int .i64) (.pair .bool (.pair tyRf (.pair (.int .i64) (.pair (.int .i64) .unit))))))))] true (.lst true (.pair .str (.pair (.int .i64) (.pair .bool (.pair tyRt (.pair (.int .i64) (.pair (.int .i64) .unit)))))))
theorem zAT : z3K.Ok Tryz.prog := z0E envC (z05 zBy z0F) Tryz.func24 (by decide +kernel) (by kernel_rfl)
def zCy : List (Nat × Hint) := []
noncomputable def z0n : Ent := mkE tysC 8 [z3K] zCy Tryz.f8 [(.vw, (.pair (.int .i64) (.pair (.lst false (.pair .str (.pair (.int .i64) (.pair .bool (.pair tyRf (.pair (.int .i64) (.pair (.int .i64) .unit))))))) .unit)))] true (.pair (.int .i64) (.pair (.lst true (.pair .str (.pair (.int .i64) (.pair .bool (.pair tyRt (.pair (.int .i64) (.pair (.int .i64) .unit))))))) .unit))
theorem z4q : z0n.Ok Tryz.prog := z0E envC (z05 zAT z0F) Tryz.func8 (by decide +kernel) (by kernel_rfl)
def zGm : List (Nat × Hint) := [(3, .join [(0, ⟨[], [(6, 0, .bool)], []⟩)])]
noncomputable def z0X : Ent := mkE tysC 37 [] zGm Tryz.f37 [(.vw, (.int .i64)), (.vw, (.int .i64)), (.vw, (.int .i64))] true .bool
theorem z3N : z0X.Ok Tryz.prog := z0E envC z0F Tryz.func37 (by decide +kernel) (by kernel_rfl)
def zD4 : List (Nat × Hint) := [(122, .loop ⟨[0, 1], [(5, 0, (.lst true .str)), (6, 0, (.int .i64)), (7, 0, (.int .i64))], []⟩ [(2, ⟨[0], [(5, 0, (.lst true .str)), (6, 0, (.int .i64))], []⟩)]), (489, .join [(0, ⟨[0, 1, 7], [(5, 0, (.lst true .str)), (6, 0, (.int .i64))], []⟩)])]
noncomputable def z1w : Ent := mkE tysC 79 [] zD4 Tryz.f79 [(.vw, .str), (.vw, (.int .u8))] true (.lst true .str)
theorem z6l : z1w.Ok Tryz.prog := z0E envC z0F Tryz.func79 (by decide +kernel) (by kernel_rfl)
def zD3 : List (Nat × Hint) := [(58, .loop ⟨[0], [(3, 0, (.int .i64))], []⟩ [(1, ⟨[2], [], []⟩), (2, ⟨[0], [], []⟩)]), (1865, .join [(0, ⟨[0, 3], [(38, 0, .bool)], []⟩)])]
noncomputable def z2R : Ent := mkE tysC 80 [z0X] zD3 Tryz.f80 [(.vw, .str)] true .bool
theorem zC0 : z2R.Ok Tryz.prog := z0E envC (z05 z3N z0F) Tryz.func80 (by decide +kernel) (by kernel_rfl)
def zBX : List (Nat × Hint) := [(31, .join [(0, ⟨[], [(2, 0, (.lst true .str)), (3, 0, .bool)], []⟩)]), (122, .loop ⟨[0, 4, 11, 12], [(13, 0, (.int .i64))], []⟩ [(1, ⟨[2, 3], [], []⟩), (2, ⟨[0, 4], [], []⟩)])]
noncomputable def z0m : Ent := mkE tysC 58 [z1w, z2R] zBX Tryz.f58 [(.vw, .str)] false (.pair (.lst true .str) (.pair .bool .unit))
theorem z3k : z0m.Ok Tryz.prog := z0E envC (z05 z6l (z05 zC0 z0F)) Tryz.func58 (by decide +kernel) (by kernel_rfl)
def zBW : List (Nat × Hint) := []
noncomputable def z1K : Ent := mkE tysC 35 [z0m] zBW Tryz.f35 [(.vw, .str)] true .bool
theorem z4a : z1K.Ok Tryz.prog := z0E envC (z05 z3k z0F) Tryz.func35 (by decide +kernel) (by kernel_rfl)
def zFU : List (Nat × Hint) := [(26, .loop ⟨[1, 7, 8], [(9, 0, (.int .i64))], []⟩ [(1, ⟨[], [(4, 0, .bool)], []⟩), (2, ⟨[], [], []⟩)])]
noncomputable def z4I : Ent := mkE tysC 59 [] zFU Tryz.f59 [(.vw, (.lst false (.int .i64))), (.vw, (.int .i64))] true .bool
theorem zES : z4I.Ok Tryz.prog := z0E envC z0F Tryz.func59 (by decide +kernel) (by kernel_rfl)
def zEL : List (Nat × Hint) := []
noncomputable def z2r : Ent := mkE tysC 36 [z4I] zEL Tryz.f36 [(.vw, (.int .i64))] true .bool
theorem z7W : z2r.Ok Tryz.prog := z0E envC (z05 zES z0F) Tryz.func36 (by decide +kernel) (by kernel_rfl)
def zAH : List (Nat × Hint) := [(122, .loop ⟨[5, 7], [(9, 0, (.int .i64))], []⟩ [(1, ⟨[], [(4, 0, (.int .i64))], []⟩), (2, ⟨[5, 7], [], []⟩)]), (488, .join [(0, ⟨[5, 7, 9], [(31, 0, .bool)], []⟩)])]
noncomputable def z1n : Ent := mkE tysC 65 [z0m] zAH Tryz.f65 [(.vw, .str), (.vw, .str)] true (.int .i64)
theorem z5g : z1n.Ok Tryz.prog := z0E envC (z05 z3k z0F) Tryz.func65 (by decide +kernel) (by kernel_rfl)
def zD1 : List (Nat × Hint) := [(7, .join [(0, ⟨[], [(4, 0, .bool)], []⟩)])]
noncomputable def z0q : Ent := mkE tysC 42 [z1n] zD1 Tryz.f42 [(.vw, (.pair .str (.pair (.int .i64) (.pair .bool (.pair tyRf (.pair (.int .i64) (.pair (.int .i64) .unit))))))), (.vw, (.pair .str (.pair (.int .i64) (.pair .bool (.pair tyRf (.pair (.int .i64) (.pair (.int .i64) .unit)))))))] true .bool
theorem z6j : z0q.Ok Tryz.prog := z0E envC (z05 z5g z0F) Tryz.func42 (by decide +kernel) (by kernel_rfl)
def zFV : List (Nat × Hint) := [(122, .loop ⟨[0], [(3, 0, (.int .i64)), (4, 0, (.int .i64))], []⟩ [(1, ⟨[], [(2, 0, (.int .i64))], []⟩), (2, ⟨[], [(3, 0, (.int .i64))], []⟩)]), (3912, .join [(0, ⟨[0, 3, 4], [(34, 0, .bool)], []⟩)]), (6, .join [(0, ⟨[0], [(18, 0, .bool)], []⟩)])]
noncomputable def z1v : Ent := mkE tysC 85 [z0X] zFV Tryz.f85 [(.vw, .str)] true (.int .i64)
theorem zET : z1v.Ok Tryz.prog := z0E envC (z05 z3N z0F) Tryz.func85 (by decide +kernel) (by kernel_rfl)
def zBY : List (Nat × Hint) := [(58, .loop ⟨[], [(0, 0, (.int .i64)), (5, 0, (.lst true (.int .u8))), (6, 0, (.int .i64))], []⟩ [(2, ⟨[], [(5, 0, (.lst true (.int .u8)))], []⟩)])]
noncomputable def z0x : Ent := mkE tysC 86 [] zBY Tryz.f86 [(.vw, (.int .i64)), (.vw, (.int .i64))] true .str
theorem zAV : z0x.Ok Tryz.prog := z0E envC z0F Tryz.func86 (by decide +kernel) (by kernel_rfl)
def zBZ : List (Nat × Hint) := [(15, .join [(0, ⟨[], [(2, 0, .bool)], []⟩)]), (58, .loop ⟨[0, 3, 12, 13], [(4, 0, .bool), (14, 0, (.int .i64))], []⟩ [(2, ⟨[0], [(4, 0, .bool)], []⟩)]), (467, .join [(0, ⟨[0, 3, 12, 13, 14], [(4, 0, .bool)], []⟩)])]
noncomputable def z2i : Ent := mkE tysC 87 [z0m] zBZ Tryz.f87 [(.vw, .str)] true .bool
theorem zAW : z2i.Ok Tryz.prog := z0E envC (z05 z3k z0F) Tryz.func87 (by decide +kernel) (by kernel_rfl)
def zD5 : List (Nat × Hint) := [(122, .loop ⟨[3, 13, 14], [(5, 0, .str), (15, 0, (.int .i64))], []⟩ [(2, ⟨[], [(5, 0, .str)], []⟩)])]
noncomputable def z2S : Ent := mkE tysC 88 [z0m] zD5 Tryz.f88 [(.vw, .str)] true .str
theorem zC1 : z2S.Ok Tryz.prog := z0E envC (z05 z3k z0F) Tryz.func88 (by decide +kernel) (by kernel_rfl)
def zD6 : List (Nat × Hint) := [(221170, .loop ⟨[1], [(13, 0, (.int .i64))], []⟩ [(1, ⟨[], [(4, 0, .str), (5, 0, .bool)], []⟩), (5, ⟨[1], [], []⟩)]), (3538724, .join [(0, ⟨[1, 13], [(104, 0, .bool)], []⟩)]), (27642, .join [(0, ⟨[12], [(76, 0, .bool)], []⟩)]), (107, .join [(0, ⟨[1, 14], [(39, 0, .bool)], []⟩)]), (3418, .loop ⟨[7, 19, 20], [(6, 0, .str), (21, 0, (.int .i64))], []⟩ [(1, ⟨[4, 5], [], []⟩), (3, ⟨[7], [(6, 0, .str)], []⟩)])]
noncomputable def z0z : Ent := mkE tysC 66 [z1w, z1v, z0X, z0x, z2i, z2S] zD6 Tryz.f66 [(.vw, (.int .i64)), (.vw, .str)] false (.pair .str (.pair .bool .unit))
theorem z6m : z0z.Ok Tryz.prog := z0E envC (z05 z6l (z05 zET (z05 z3N (z05 zAV (z05 zAW (z05 zC1 z0F)))))) Tryz.func66 (by decide +kernel) (by kernel_rfl)
def z9F : List (Nat × Hint) := [(7, .join [(0, ⟨[], [(2, 0, .bool)], []⟩)])]
noncomputable def z2h : Ent := mkE tysC 43 [z0z, z1K, z0X] z9F Tryz.f43 [(.vw, tyR)] true .bool
theorem z8b : z2h.Ok Tryz.prog := z0E envC (z05 z6m (z05 z4a (z05 z3N z0F))) Tryz.func43 (by decide +kernel) (by kernel_rfl)
def zEK : List (Nat × Hint) := []
noncomputable def z2q : Ent := mkE tysC 67 [] zEK Tryz.f67 [(.vw, .bool)] true (.int .i64)
theorem zDA : z2q.Ok Tryz.prog := z0E envC z0F Tryz.func67 (by decide +kernel) (by kernel_rfl)
def zAI : List (Nat × Hint) := []
noncomputable def z1P : Ent := mkE tysC 44 [z1n, z0z, z2q] zAI Tryz.f44 [(.vw, tyR), (.vw, tyR)] true (.int .i64)
theorem z9W : z1P.Ok Tryz.prog := z0E envC (z05 z5g (z05 z6m (z05 zDA z0F))) Tryz.func44 (by decide +kernel) (by kernel_rfl)
def zD2 : List (Nat × Hint) := [(26, .loop ⟨[0, 5, 6], [(7, 0, (.int .i64))], []⟩ [(1, ⟨[2], [], []⟩), (2, ⟨[0], [], []⟩)]), (1689, .join [(0, ⟨[0, 5, 6, 7], [(55, 0, .bool)], []⟩)])]
noncomputable def z2Q : Ent := mkE tysC 21 [z2h, z1P, z0X] zD2 Tryz.f21 [(.vw, tyRf)] true .bool
theorem z6k : z2Q.Ok Tryz.prog := z0E envC (z05 z8b (z05 z9W (z05 z3N z0F))) Tryz.func21 (by decide +kernel) (by kernel_rfl)
def zAF : List (Nat × Hint) := [(58, .loop ⟨[1, 16, 17], [(18, 0, (.int .i64))], []⟩ [(1, ⟨[], [(2, 0, .bool)], []⟩), (2, ⟨[], [], []⟩)]), (467, .join [(0, ⟨[1, 16, 17, 18], [], []⟩), (1, ⟨[], [(2, 0, .bool)], []⟩)]), (14951, .join [(0, ⟨[1, 16, 17, 18], [(97, 0, .bool)], []⟩)]), (7474, .join [(0, ⟨[1, 4, 16, 17, 18], [(67, 0, .bool)], []⟩)]), (6, .join [(0, ⟨[1], [(14, 0, .bool)], []⟩)])]
noncomputable def z1m : Ent := mkE tysC 20 [z0X, z1K, z2r, z0q, z2Q] zAF Tryz.f20 [(.vw, (.pair (.int .i64) (.pair (.lst false (.pair .str (.pair (.int .i64) (.pair .bool (.pair tyRf (.pair (.int .i64) (.pair (.int .i64) .unit))))))) .unit)))] true .bool
theorem z5f : z1m.Ok Tryz.prog := z0E envC (z05 z3N (z05 z4a (z05 z7W (z05 z6j (z05 z6k z0F))))) Tryz.func20 (by decide +kernel) (by kernel_rfl)
def z8N : List (Nat × Hint) := []
noncomputable def z1h : Ent := mkE tysZ 45 [] z8N Tryz.f45 [(.vw, (.pair .str (.pair (.int .i64) (.pair .bool (.pair tyRf (.pair (.int .i64) (.pair (.int .i64) .unit)))))))] true (.pair .str (.pair (.int .i64) (.pair .bool (.pair tyRt (.pair (.int .i64) (.pair (.int .i64) .unit))))))
theorem z7s : z1h.Ok Tryz.prog := z0E envZ z0F Tryz.func45 (by decide +kernel) (by kernel_rfl)
noncomputable abbrev z3a : Ent := z1h.frz
theorem z4N : z3a.Ok Tryz.prog := Ent.frz_ok z7s
def zEI : List (Nat × Hint) := [(58, .loop ⟨[1, 2, 7, 8], [(3, 0, (.lst true (.pair .str (.pair (.int .i64) (.pair .bool (.pair tyRf (.pair (.int .i64) (.pair (.int .i64) .unit)))))))), (9, 0, (.int .i64))], []⟩ [(2, ⟨[1, 2], [(3, 0, (.lst true (.pair .str (.pair (.int .i64) (.pair .bool (.pair tyRf (.pair (.int .i64) (.pair (.int .i64) .unit))))))))], []⟩)]), (0, .frz [15])]
noncomputable def z3P : Ent := mkE tysZ 23 [z3a] zEI Tryz.f23 [(.vw, (.pair (.int .i64) (.pair (.lst false (.pair .str (.pair (.int .i64) (.pair .bool (.pair tyRf (.pair (.int .i64) (.pair (.int .i64) .unit))))))) .unit)))] true (.pair (.int .i64) (.pair (.lst true (.pair .str (.pair (.int .i64) (.pair .bool (.pair tyRf (.pair (.int .i64) (.pair (.int .i64) .unit))))))) .unit))
theorem zD9 : z3P.Ok Tryz.prog := z0E envZ (z05 z4N z0F) Tryz.func23 (by decide +kernel) (by kernel_rfl)
noncomputable abbrev z4o : Ent := z3P.frz
theorem z6B : z4o.Ok Tryz.prog := Ent.frz_ok zD9
def zEJ : List (Nat × Hint) := [(2047, .join [(0, ⟨[2, 4], [(6, 0, (.lst true (.pair .str (.pair (.int .i64) (.pair .bool (.pair tyRf (.pair (.int .i64) (.pair (.int .i64) .unit))))))))], []⟩)]), (262058, .loop ⟨[2, 4, 6, 7, 80, 81], [(8, 0, (.int .i64)), (82, 0, (.int .i64))], []⟩ [(4, ⟨[2, 4, 6], [(8, 0, (.int .i64))], []⟩)]), (2096467, .join [(0, ⟨[2, 4, 6, 7, 80, 81, 82], [(8, 0, (.int .i64))], []⟩)]), (16771737, .join [(0, ⟨[2, 4, 6, 7, 8, 9, 80, 81, 82], [(103, 0, .bool)], []⟩)]), (511, .join [(0, ⟨[2, 4, 6, 7], [(5, 0, (.int .i64))], []⟩)]), (1022, .join [(0, ⟨[2, 4, 5, 6, 7], [(68, 0, .bool)], []⟩)]), (60, .loop ⟨[2, 3, 4], [(5, 0, (.int .i64))], []⟩ [(2, ⟨[2, 3, 4], [(5, 0, (.int .i64))], []⟩)]), (240, .join [(0, ⟨[2, 3, 4, 5], [(27, 0, .bool)], []⟩)]), (0, .frz [39])]
noncomputable def z2N : Ent := mkE tysZ 22 [z0q, z3a] zEJ Tryz.f22 [(.vw, (.pair (.int .i64) (.pair (.lst false (.pair .str (.pair (.int .i64) (.pair .bool (.pair tyRf (.pair (.int .i64) (.pair (.int .i64) .unit))))))) .unit))), (.vw, (.pair .str (.pair (.int .i64) (.pair .bool (.pair tyRf (.pair (.int .i64) (.pair (.int .i64) .unit)))))))] true (.pair (.int .i64) (.pair (.lst true (.pair .str (.pair (.int .i64) (.pair .bool (.pair tyRf (.pair (.int .i64) (.pair (.int .i64) .unit))))))) .unit))
theorem z5N : z2N.Ok Tryz.prog := z0E envZ (z05 z6j (z05 z4N z0F)) Tryz.func22 (by decide +kernel) (by kernel_rfl)
noncomputable abbrev zB2 : Ent := z2N.frz
theorem ok_spec_l10Put_z : zB2.Ok Tryz.prog := Ent.frz_ok z5N
def zAG : List (Nat × Hint) := [(6, .join [(0, ⟨[1, 2, 4], [(20, 0, .bool)], []⟩)]), (0, .frz [23])]
noncomputable def z2x : Ent := mkE tysZ 7 [z1m, z2Q, z2N, z4o] zAG Tryz.f7 [(.vw, (.pair (.int .i64) (.pair (.lst false (.pair .str (.pair (.int .i64) (.pair .bool (.pair tyRf (.pair (.int .i64) (.pair (.int .i64) .unit))))))) .unit))), (.vw, tyRf)] false (.pair (.pair (.int .i64) (.pair (.lst true (.pair .str (.pair (.int .i64) (.pair .bool (.pair tyRf (.pair (.int .i64) (.pair (.int .i64) .unit))))))) .unit)) (.pair .bool .unit))
theorem z9V : z2x.Ok Tryz.prog := z0E envZ (z05 z5f (z05 z6k (z05 z5N (z05 z6B z0F)))) Tryz.func7 (by decide +kernel) (by kernel_rfl)
noncomputable abbrev z4V : Ent := z0n.frz
theorem z5e : z4V.Ok Tryz.prog := Ent.frz_ok z4q
noncomputable abbrev z56 : Ent := z0l.frz
theorem z7r : z56.Ok Tryz.prog := Ent.frz_ok z47
def zEH : List (Nat × Hint) := [(3, .join [(0, ⟨[], [(6, 0, .bool)], []⟩)])]
noncomputable def z0W : Ent := mkE tysC 40 [] zEH Tryz.f40 [(.vw, (.int .i64)), (.vw, (.int .i64)), (.vw, (.int .i64))] true .bool
theorem z2T : z0W.Ok Tryz.prog := z0E envC z0F Tryz.func40 (by decide +kernel) (by kernel_rfl)
noncomputable abbrev z1b : Ent := zG7 81
theorem z6C : z1b.Ok Tryz.prog := zKC Tryz.l146 (by kernel_rfl) Tryz.func81 (by decide +kernel) rfl zBF
def zBK : List (Nat × Hint) := []
noncomputable def z17 : Ent := mkE tysC 60 [z1b] zBK Tryz.f60 [(.vw, .str)] true (.lst true .str)
theorem z4Z : z17.Ok Tryz.prog := z0E envC (z05 z6C z0F) Tryz.func60 (by decide +kernel) (by kernel_rfl)
noncomputable abbrev z36 : Ent := zKI 83
theorem zC4 : z36.Ok Tryz.prog := zL8 Tryz.l160 (by kernel_rfl) (by kernel_rfl) Tryz.func83 (by decide +kernel) rfl
def zCt : List (Nat × Hint) := [(7, .join [(0, ⟨[], [(2, 0, .bool)], []⟩)])]
noncomputable def z3d : Ent := mkE tysC 63 [z0W, z36] zCt Tryz.f63 [(.vw, .str)] true .bool
theorem zBv : z3d.Ok Tryz.prog := z0E envC (z05 z2T (z05 zC4 z0F)) Tryz.func63 (by decide +kernel) (by kernel_rfl)
def z9A : List (Nat × Hint) := []
noncomputable def z1y : Ent := mkE tysC 62 [z3d] z9A Tryz.f62 [(.vw, .str)] true .bool
theorem z8W : z1y.Ok Tryz.prog := z0E envC (z05 zBv z0F) Tryz.func62 (by decide +kernel) (by kernel_rfl)
def z2C : List (Nat × Hint) := [(26, .loop ⟨[0, 1, 7], [(8, 0, (.int .i64))], []⟩ [(1, ⟨[], [(4, 0, (.int .i64))], []⟩), (2, ⟨[], [], []⟩)])]
noncomputable def z0I : Ent := mkE tysC 82 [z1y] z2C Tryz.f82 [(.vw, (.lst false .str)), (.vw, (.fn 62 .unit))] true (.int .i64)
theorem z2A : z0I.Ok Tryz.prog := z0E envC (z05 z8W z0F) Tryz.func82 (by decide +kernel) (by kernel_rfl)
def z25 : List (Nat × Hint) := []
noncomputable def z0C : Ent := mkE tysC 61 [z0I] z25 Tryz.f61 [(.vw, (.lst false .str)), (.vw, (.fn 62 .unit))] true .bool
theorem z1t : z0C.Ok Tryz.prog := z0E envC (z05 z2A z0F) Tryz.func61 (by decide +kernel) (by kernel_rfl)
def zBH : List (Nat × Hint) := [(15, .join [(0, ⟨[], [(2, 0, .bool)], []⟩)])]
noncomputable def z0w : Ent := mkE tysC 38 [z17, z0C] zBH Tryz.f38 [(.vw, .str)] true .bool
theorem z3i : z0w.Ok Tryz.prog := z0E envC (z05 z4Z (z05 z1t z0F)) Tryz.func38 (by decide +kernel) (by kernel_rfl)
def z6F : List (Nat × Hint) := [(26, .loop ⟨[0, 1, 7], [(8, 0, (.int .i64))], []⟩ [(1, ⟨[], [(4, 0, (.int .i64))], []⟩), (2, ⟨[], [], []⟩)])]
noncomputable def z1T : Ent := mkE tysC 84 [] z6F Tryz.f84 [(.vw, (.lst false (.int .i64))), (.vw, (.int .i64))] true (.int .i64)
theorem z5z : z1T.Ok Tryz.prog := z0E envC z0F Tryz.func84 (by decide +kernel) (by kernel_rfl)
def z5L : List (Nat × Hint) := []
noncomputable def z18 : Ent := mkE tysC 64 [z1T] z5L Tryz.f64 [(.vw, (.lst false (.int .i64))), (.vw, (.int .i64))] true .bool
theorem z52 : z18.Ok Tryz.prog := z0E envC (z05 z5z z0F) Tryz.func64 (by decide +kernel) (by kernel_rfl)
def zEG : List (Nat × Hint) := []
noncomputable def z2o : Ent := mkE tysC 39 [z18] zEG Tryz.f39 [(.vw, (.int .i64))] true .bool
theorem z7V : z2o.Ok Tryz.prog := z0E envC (z05 z52 z0F) Tryz.func39 (by decide +kernel) (by kernel_rfl)
noncomputable abbrev z34 : Ent := zGP 123
theorem zC2 : z34.Ok Tryz.prog := zKQ Tryz.l172 (by kernel_rfl) Tryz.func123 (by decide +kernel) rfl zMO zMN
noncomputable abbrev z35 : Ent := zJN 124
theorem zC3 : z35.Ok Tryz.prog := zKf Tryz.l171 (by kernel_rfl) Tryz.func124 (by decide +kernel) rfl (by kernel_rfl) zMM
def zBL : List (Nat × Hint) := [(7, .join [(0, ⟨[], [(4, 0, (.int .i64)), (5, 0, .bool)], []⟩)])]
noncomputable def z1I : Ent := mkE tysC 106 [z34, z0W, z35] zBL Tryz.f106 [(.vw, .str), (.vw, (.int .i64))] false (.pair (.int .i64) (.pair .bool .unit))
theorem zAM : z1I.Ok Tryz.prog := z0E envC (z05 zC2 (z05 z2T (z05 zC3 z0F))) Tryz.func106 (by decide +kernel) (by kernel_rfl)
def zIN : List (Nat × Hint) := [(58, .loop ⟨[0], [(5, 0, (.lst true (.int .u8))), (6, 0, (.int .i64))], []⟩ [(2, ⟨[], [(5, 0, (.lst true (.int .u8)))], []⟩)])]
noncomputable def z2I : Ent := mkE tysC 107 [] zIN Tryz.f107 [(.vw, (.int .i64)), (.vw, (.int .i64))] true .str
theorem zGx : z2I.Ok Tryz.prog := z0E envC z0F Tryz.func107 (by decide +kernel) (by kernel_rfl)
noncomputable abbrev z1i : Ent := z6O 125
theorem z7t : z1i.Ok Tryz.prog := zF8 Tryz.l144 (by kernel_rfl) Tryz.func125 (by decide +kernel) rfl zBF
def zBJ : List (Nat × Hint) := [(3, .join [(0, ⟨[], [(2, 0, .bool)], []⟩)])]
noncomputable def z2e : Ent := mkE tysC 108 [z0w, z1i] zBJ Tryz.f108 [(.vw, .str)] true .bool
theorem zAL : z2e.Ok Tryz.prog := z0E envC (z05 z3i (z05 z7t z0F)) Tryz.func108 (by decide +kernel) (by kernel_rfl)
def z9C : List (Nat × Hint) := [(58, .loop ⟨[7, 8], [(3, 0, .str), (9, 0, (.int .i64))], []⟩ [(2, ⟨[], [(3, 0, .str)], []⟩)])]
noncomputable def z1Y : Ent := mkE tysC 109 [z17] z9C Tryz.f109 [(.vw, .str)] true .str
theorem z8Y : z1Y.Ok Tryz.prog := z0E envC (z05 z4Z z0F) Tryz.func109 (by decide +kernel) (by kernel_rfl)
noncomputable abbrev z3Q : Ent := cutE 110
theorem zDB : z3Q.Ok Tryz.prog := zLX Tryz.l145 (by kernel_rfl) Tryz.func110 (by decide +kernel) rfl zBF
def z8J : List (Nat × Hint) := [(3, .join [(0, ⟨[], [(2, 0, .bool)], []⟩)])]
noncomputable def z1g : Ent := mkE tysC 112 [] z8J Tryz.f112 [(.vw, (.int .u8))] true .bool
theorem z7o : z1g.Ok Tryz.prog := z0E envC z0F Tryz.func112 (by decide +kernel) (by kernel_rfl)
def z2W : List (Nat × Hint) := [(26, .loop ⟨[0, 1, 7], [(8, 0, (.int .i64))], []⟩ [(1, ⟨[], [(4, 0, (.int .i64))], []⟩), (2, ⟨[], [], []⟩)])]
noncomputable def z0M : Ent := mkE tysC 127 [z1g] z2W Tryz.f127 [(.vw, (.lst false (.int .u8))), (.vw, (.fn 112 .unit))] true (.int .i64)
theorem z2U : z0M.Ok Tryz.prog := z0E envC (z05 z7o z0F) Tryz.func127 (by decide +kernel) (by kernel_rfl)
def z2B : List (Nat × Hint) := []
noncomputable def z0H : Ent := mkE tysC 111 [z0M] z2B Tryz.f111 [(.vw, (.lst false (.int .u8))), (.vw, (.fn 112 .unit))] true .bool
theorem z29 : z0H.Ok Tryz.prog := z0E envC (z05 z2U z0F) Tryz.func111 (by decide +kernel) (by kernel_rfl)
def zA5 : List (Nat × Hint) := [(55292, .join [(0, ⟨[1], [(103, 0, .bool)], []⟩)]), (55286, .join [(0, ⟨[15, 17], [(87, 0, .bool)], []⟩)]), (107, .join [(0, ⟨[1, 19], [(48, 0, .bool)], []⟩)]), (3418, .loop ⟨[7, 24, 25], [(6, 0, .str), (26, 0, (.int .i64))], []⟩ [(1, ⟨[4, 5], [], []⟩), (3, ⟨[], [(6, 0, .str)], []⟩)]), (875110, .join [(0, ⟨[6, 7, 10, 24, 25, 26], [(41, 0, .bool)], []⟩)])]
noncomputable def z0k : Ent := mkE tysC 92 [z1b, z1I, z2I, z2e, z1Y, z3Q, z0H] zA5 Tryz.f92 [(.vw, (.int .i64)), (.vw, .str)] false (.pair .str (.pair .bool .unit))
theorem z5Y : z0k.Ok Tryz.prog := z0E envC (z05 z6C (z05 zAM (z05 zGx (z05 zAL (z05 z8Y (z05 zDB (z05 z29 z0F))))))) Tryz.func92 (by decide +kernel) (by kernel_rfl)
def z9B : List (Nat × Hint) := [(6, .join [(0, ⟨[1], [(20, 0, .bool)], []⟩)])]
noncomputable def z2c : Ent := mkE tysC 71 [z0w, z0W, z0k] z9B Tryz.f71 [(.vw, tyR)] true .bool
theorem z8X : z2c.Ok Tryz.prog := z0E envC (z05 z3i (z05 z2T (z05 z5Y z0F))) Tryz.func71 (by decide +kernel) (by kernel_rfl)
def z4L : List (Nat × Hint) := [(6, .loop ⟨[], [(0, 0, (.lst true .str)), (2, 0, (.int .i64)), (3, 0, (.int .i64))], []⟩ [(2, ⟨[], [(0, 0, (.lst true .str))], []⟩)])]
noncomputable def z0b : Ent := mkE tysC 89 [] z4L Tryz.f89 [(.io, (.lst true .str))] false .unit
theorem z49 : z0b.Ok Tryz.prog := z0E envC z0F Tryz.func89 (by decide +kernel) (by kernel_rfl)
def z8I : List (Nat × Hint) := []
noncomputable def z1f : Ent := mkE tysC 122 [] z8I Tryz.f122 [(.vw, .str)] true .bool
theorem z7n : z1f.Ok Tryz.prog := z0E envC z0F Tryz.func122 (by decide +kernel) (by kernel_rfl)
def z7M : List (Nat × Hint) := []
noncomputable def z12 : Ent := mkE tysC 105 [z1f] z7M Tryz.f105 [(.vw, .str), (.vw, .str)] true (.int .i64)
theorem z6f : z12.Ok Tryz.prog := z0E envC (z05 z7n z0F) Tryz.func105 (by decide +kernel) (by kernel_rfl)
def z4K : List (Nat × Hint) := [(26, .loop ⟨[0, 1, 9, 10], [(11, 0, (.int .i64))], []⟩ [(1, ⟨[], [(4, 0, (.int .i64))], []⟩), (2, ⟨[0, 1], [], []⟩)])]
noncomputable def z0o : Ent := mkE tysC 90 [z12] z4K Tryz.f90 [(.vw, (.lst false .str)), (.vw, (.lst false .str))] true (.int .i64)
theorem z48 : z0o.Ok Tryz.prog := z0E envC (z05 z6f z0F) Tryz.func90 (by decide +kernel) (by kernel_rfl)
def z7j : List (Nat × Hint) := []
noncomputable def z1E : Ent := mkE tysC 69 [z17, z0b, z0o] z7j Tryz.f69 [(.vw, .str), (.vw, .str)] true (.int .i64)
theorem z4e : z1E.Ok Tryz.prog := z0E envC (z05 z4Z (z05 z49 (z05 z48 z0F))) Tryz.func69 (by decide +kernel) (by kernel_rfl)
def zBG : List (Nat × Hint) := []
noncomputable def z2b : Ent := mkE tysC 91 [] zBG Tryz.f91 [(.vw, (.int .i64))] true .bool
theorem zAJ : z2b.Ok Tryz.prog := z0E envC z0F Tryz.func91 (by decide +kernel) (by kernel_rfl)
def z98 : List (Nat × Hint) := []
noncomputable def z11 : Ent := mkE tysC 70 [z2b] z98 Tryz.f70 [(.vw, (.int .i64)), (.vw, (.int .i64))] true (.int .i64)
theorem z3w : z11.Ok Tryz.prog := z0E envC (z05 zAJ z0F) Tryz.func70 (by decide +kernel) (by kernel_rfl)
def zFT : List (Nat × Hint) := [(58, .loop ⟨[3, 6, 7], [(8, 0, (.int .i64))], []⟩ [(1, ⟨[], [(2, 0, (.int .i64))], []⟩), (2, ⟨[3], [], []⟩)])]
noncomputable def z2K : Ent := mkE tysC 68 [] zFT Tryz.f68 [(.vw, (.lst false (.int .i64)))] true (.int .i64)
theorem z5y : z2K.Ok Tryz.prog := z0E envC z0F Tryz.func68 (by decide +kernel) (by kernel_rfl)
def z8K : List (Nat × Hint) := []
noncomputable def z2L : Ent := mkE tysC 93 [z1E, z11, z2K] z8K Tryz.f93 [(.vw, tyR), (.vw, tyR)] true (.int .i64)
theorem z7p : z2L.Ok Tryz.prog := z0E envC (z05 z4e (z05 z3w (z05 z5y z0F))) Tryz.func93 (by decide +kernel) (by kernel_rfl)
def zA9 : List (Nat × Hint) := []
noncomputable def z2J : Ent := mkE tysC 95 [z0k] zA9 Tryz.f95 [(.vw, (.int .i64)), (.vw, .str)] true .str
theorem z9T : z2J.Ok Tryz.prog := z0E envC (z05 z5Y z0F) Tryz.func95 (by decide +kernel) (by kernel_rfl)
noncomputable abbrev z1z : Ent := zAp 94
theorem z8c : z1z.Ok Tryz.prog := zGV Tryz.l106 (by kernel_rfl) Tryz.func94 (by decide +kernel) rfl
def z6W : List (Nat × Hint) := []
noncomputable def z1a : Ent := mkE tysC 72 [z2L, z2J, z1z, z11, z2K] z6W Tryz.f72 [(.vw, tyR), (.vw, tyR)] true (.int .i64)
theorem z6H : z1a.Ok Tryz.prog := z0E envC (z05 z7p (z05 z9T (z05 z8c (z05 z3w (z05 z5y z0F))))) Tryz.func72 (by decide +kernel) (by kernel_rfl)
def zA8 : List (Nat × Hint) := [(26, .loop ⟨[0, 5, 6], [(7, 0, (.int .i64))], []⟩ [(1, ⟨[2], [], []⟩), (2, ⟨[], [], []⟩)]), (1689, .join [(0, ⟨[0, 5, 6, 7], [(28, 0, .bool)], []⟩)])]
noncomputable def z2w : Ent := mkE tysC 49 [z2c, z1a] zA8 Tryz.f49 [(.vw, tyRf)] true .bool
theorem z9S : z2w.Ok Tryz.prog := z0E envC (z05 z8X (z05 z6H z0F)) Tryz.func49 (by decide +kernel) (by kernel_rfl)
def zBI : List (Nat × Hint) := [(3, .join [(0, ⟨[], [(5, 0, .bool)], []⟩)])]
noncomputable def z2d : Ent := mkE tysC 51 [] zBI Tryz.f51 [(.vw, tyR), (.vw, (.ptr .str)), (.vw, (.ptr (.int .i64))), (.vw, (.ptr tyRf))] true .bool
theorem zAK : z2d.Ok Tryz.prog := z0E envC z0F Tryz.func51 (by decide +kernel) (by kernel_rfl)
def z1c : List (Nat × Hint) := [(26, .loop ⟨[0, 1, 7], [(8, 0, (.int .i64))], []⟩ [(1, ⟨[], [(4, 0, (.int .i64))], []⟩), (2, ⟨[], [], []⟩)])]
noncomputable def z0B : Ent := mkE tysC 73 [z2d] z1c Tryz.f73 [(.vw, tyRf), (.vw, (.fn 51 (.pair (.ptr .str) (.pair (.ptr (.int .i64)) (.pair (.ptr tyRf) .unit)))))] true (.int .i64)
theorem z1Z : z0B.Ok Tryz.prog := z0E envC (z05 zAK z0F) Tryz.func73 (by decide +kernel) (by kernel_rfl)
def z1U : List (Nat × Hint) := []
noncomputable def z0A : Ent := mkE tysC 50 [z0B] z1U Tryz.f50 [(.vw, tyRf), (.vw, (.fn 51 (.pair (.ptr .str) (.pair (.ptr (.int .i64)) (.pair (.ptr tyRf) .unit)))))] true .bool
theorem z1R : z0A.Ok Tryz.prog := z0E envC (z05 z1Z z0F) Tryz.func50 (by decide +kernel) (by kernel_rfl)
def zEF : List (Nat × Hint) := [(3, .join [(0, ⟨[], [(6, 0, .bool)], []⟩)])]
noncomputable def z2n : Ent := mkE tysC 27 [z0W, z2w, z0A] zEF Tryz.f27 [(.vw, tyRf), (.vw, .str), (.vw, (.int .i64))] true .bool
theorem z7U : z2n.Ok Tryz.prog := z0E envC (z05 z2T (z05 z9S (z05 z1R z0F))) Tryz.func27 (by decide +kernel) (by kernel_rfl)
def zCs : List (Nat × Hint) := [(6, .join [(0, ⟨[3], [(34, 0, .bool)], []⟩)])]
noncomputable def z3c : Ent := mkE tysC 47 [z0w, z2o, z0W, z2n] zCs Tryz.f47 [(.vw, (.pair (.int .i64) (.pair (.lst false (.pair .str (.pair (.int .i64) (.pair .bool (.pair tyRf (.pair (.int .i64) (.pair (.int .i64) .unit))))))) .unit))), (.vw, (.pair .str (.pair (.int .i64) (.pair .bool (.pair tyRf (.pair (.int .i64) (.pair (.int .i64) .unit)))))))] true .bool
theorem zBu : z3c.Ok Tryz.prog := z0E envC (z05 z3i (z05 z7V (z05 z2T (z05 z7U z0F)))) Tryz.func47 (by decide +kernel) (by kernel_rfl)
def z7i : List (Nat × Hint) := []
noncomputable def z1D : Ent := mkE tysC 48 [z1E, z11, z2K] z7i Tryz.f48 [(.vw, (.pair .str (.pair (.int .i64) (.pair .bool (.pair tyRf (.pair (.int .i64) (.pair (.int .i64) .unit))))))), (.vw, .str), (.vw, (.int .i64))] true (.int .i64)
theorem z4d : z1D.Ok Tryz.prog := z0E envC (z05 z4e (z05 z3w (z05 z5y z0F))) Tryz.func48 (by decide +kernel) (by kernel_rfl)
def zA6 : List (Nat × Hint) := [(58, .loop ⟨[1, 16, 17], [(18, 0, (.int .i64))], []⟩ [(1, ⟨[], [(2, 0, .bool)], []⟩), (2, ⟨[], [], []⟩)]), (3737, .join [(0, ⟨[1, 16, 17, 18], [(44, 0, .bool)], []⟩)]), (6, .join [(0, ⟨[1], [(14, 0, .bool)], []⟩)])]
noncomputable def z1k : Ent := mkE tysC 26 [z0W, z3c, z1D] zA6 Tryz.f26 [(.vw, (.pair (.int .i64) (.pair (.lst false (.pair .str (.pair (.int .i64) (.pair .bool (.pair tyRf (.pair (.int .i64) (.pair (.int .i64) .unit))))))) .unit)))] true .bool
theorem z5Z : z1k.Ok Tryz.prog := z0E envC (z05 z2T (z05 zBu (z05 z4d z0F))) Tryz.func26 (by decide +kernel) (by kernel_rfl)
def z3R : List (Nat × Hint) := []
noncomputable def z0G : Ent := mkE tysC 29 [] z3R Tryz.f29 [(.vw, tyRf)] true tyRt
theorem z1d : z0G.Ok Tryz.prog := z0E envC z0F Tryz.func29 (by decide +kernel) (by kernel_rfl)
def zBN : List (Nat × Hint) := []
noncomputable def z3E : Ent := mkE tysC 74 [z0G] zBN Tryz.f74 [(.vw, (.pair .str (.pair (.int .i64) (.pair .bool (.pair tyRf (.pair (.int .i64) (.pair (.int .i64) .unit)))))))] true (.pair .str (.pair (.int .i64) (.pair .bool (.pair tyRt (.pair (.int .i64) (.pair (.int .i64) .unit))))))
theorem zAO : z3E.Ok Tryz.prog := z0E envC (z05 z1d z0F) Tryz.func74 (by decide +kernel) (by kernel_rfl)
def zBM : List (Nat × Hint) := [(58, .loop ⟨[2, 10, 11], [(3, 2, (.pair (.int .i64) (.pair (.lst true (.pair .str (.pair (.int .i64) (.pair .bool (.pair tyRt (.pair (.int .i64) (.pair (.int .i64) .unit))))))) .unit))), (12, 0, (.int .i64))], []⟩ [(2, ⟨[2], [(3, 2, (.pair (.int .i64) (.pair (.lst true (.pair .str (.pair (.int .i64) (.pair .bool (.pair tyRt (.pair (.int .i64) (.pair (.int .i64) .unit))))))) .unit)))], []⟩)])]
noncomputable def z3D : Ent := mkE tysC 52 [z3E] zBM Tryz.f52 [(.vw, (.pair (.int .i64) (.pair (.lst false (.pair .str (.pair (.int .i64) (.pair .bool (.pair tyRf (.pair (.int .i64) (.pair (.int .i64) .unit))))))) .unit)))] true (.pair (.int .i64) (.pair (.lst true (.pair .str (.pair (.int .i64) (.pair .bool (.pair tyRt (.pair (.int .i64) (.pair (.int .i64) .unit))))))) .unit))
theorem zAN : z3D.Ok Tryz.prog := z0E envC (z05 zAO z0F) Tryz.func52 (by decide +kernel) (by kernel_rfl)
def z7h : List (Nat × Hint) := []
noncomputable def z0v : Ent := mkE tysC 76 [z1D] z7h Tryz.f76 [(.vw, (.pair .str (.pair (.int .i64) (.pair .bool (.pair tyRf (.pair (.int .i64) (.pair (.int .i64) .unit))))))), (.vw, (.int .i64)), (.vw, (.ptr .str))] true (.int .i64)
theorem z7O : z0v.Ok Tryz.prog := z0E envC (z05 z4d z0F) Tryz.func76 (by decide +kernel) (by kernel_rfl)
def z15 : List (Nat × Hint) := [(31, .join [(0, ⟨[], [(6, 0, (.int .i64)), (7, 0, .bool)], []⟩)]), (60, .loop ⟨[0, 1, 2, 8], [(9, 0, (.int .i64)), (10, 0, (.int .i64))], []⟩ [(2, ⟨[0, 1, 2, 8], [(9, 0, (.int .i64))], []⟩)])]
noncomputable def z07 : Ent := mkE tysC 75 [z0v] z15 Tryz.f75 [(.vw, (.lst false (.pair .str (.pair (.int .i64) (.pair .bool (.pair tyRf (.pair (.int .i64) (.pair (.int .i64) .unit)))))))), (.vw, (.int .i64)), (.vw, (.fn 76 (.pair (.ptr .str) .unit)))] false (.pair (.int .i64) (.pair .bool .unit))
theorem z13 : z07.Ok Tryz.prog := z0E envC (z05 z7O z0F) Tryz.func75 (by decide +kernel) (by kernel_rfl)
def z99 : List (Nat × Hint) := []
noncomputable def z1x : Ent := mkE tysC 53 [z07] z99 Tryz.f53 [(.vw, (.pair (.int .i64) (.pair (.lst false (.pair .str (.pair (.int .i64) (.pair .bool (.pair tyRf (.pair (.int .i64) (.pair (.int .i64) .unit))))))) .unit))), (.vw, .str), (.vw, (.int .i64))] false (.pair (.int .i64) (.pair .bool .unit))
theorem z8V : z1x.Ok Tryz.prog := z0E envC (z05 z13 z0F) Tryz.func53 (by decide +kernel) (by kernel_rfl)
def Tryz.delR54 : Go.Shelf.Ren := ⟨fun | 45 => 54 | n => n, fun | 0 => 0 | 3 => 3 | 4 => 4 | 23 => 53 | 22 => 28 | n => n, fun n => n⟩
noncomputable def Tryz.delI54 : TypeInfo := (Tryz.prog.info? 53).getD default
noncomputable def Tryz.delZ54 : Value := Tryz.delI54.zero.getD default
theorem Tryz.delL54 : DelL Tryz.prog Tryz.delR54 Tryz.delI54 Tryz.delZ54 := {
 mixed := by kernel_rfl
 f45 := ⟨Tryz.f54.name, by kernel_rfl, Tryz.func54.trans (congrArg some (by kernel_rfl))⟩
 t0 := Tryz.underlying0
 a0 := Tryz.isAgg0
 z0 := Tryz.sizeOf0
 v0 := Tryz.zeroValue0
 t3 := Tryz.underlying3
 a3 := Tryz.isAgg3
 z3 := Tryz.sizeOf3
 v3 := Tryz.zeroValue3
 t4 := Tryz.underlying4
 a4 := Tryz.isAgg4
 z4 := Tryz.sizeOf4
 v4 := Tryz.zeroValue4
 z23 := Tryz.sizeOf53
 t22 := Tryz.underlying28
 a22 := Tryz.isAgg28
 z22 := Tryz.sizeOf28
 v22 := Tryz.zeroValue28
 i23 := by kernel_rfl
 iz := by kernel_rfl
 is := of_decide_eq_true (by kernel_rfl)
 ic := by kernel_rfl
 i1 := of_decide_eq_true (by kernel_rfl) }
noncomputable abbrev z0i : Ent := delE 54 (.pair .str (.pair (.int .i64) (.pair .bool (.pair tyRt (.pair (.int .i64) (.pair (.int .i64) .unit))))))
theorem z3U : z0i.Ok Tryz.prog := zLZ Tryz.delL54 (by kernel_rfl) Tryz.func54 (by decide +kernel) rfl (by kernel_rfl) rfl
def Tryz.insR55 : Go.Shelf.Ren := ⟨fun | 22 => 55 | 29 => 77 | 30 => 78 | n => n, fun | 0 => 0 | 3 => 3 | 4 => 4 | 9 => 53 | 24 => 28 | n => n, fun n => n⟩
noncomputable def Tryz.insI55 : TypeInfo := (Tryz.prog.info? 53).getD default
noncomputable def Tryz.insZ55 : Value := Tryz.insI55.zero.getD default
theorem Tryz.insL55 : InsL Tryz.prog Tryz.insR55 Tryz.insI55 Tryz.insZ55 := {
 mixed := by kernel_rfl
 f22 := ⟨Tryz.f55.name, by kernel_rfl, Tryz.func55.trans (congrArg some (by kernel_rfl))⟩
 f29 := fun args w => run_callFunc_extern Tryz.func77 (by kernel_rfl) (by kernel_rfl) (by kernel_rfl) (by kernel_rfl) args w
 t0 := Tryz.underlying0
 a0 := Tryz.isAgg0
 z0 := Tryz.sizeOf0
 v0 := Tryz.zeroValue0
 t3 := Tryz.underlying3
 a3 := Tryz.isAgg3
 z3 := Tryz.sizeOf3
 v3 := Tryz.zeroValue3
 t4 := Tryz.underlying4
 a4 := Tryz.isAgg4
 z4 := Tryz.sizeOf4
 v4 := Tryz.zeroValue4
 z9 := Tryz.sizeOf53
 t24 := Tryz.underlying28
 a24 := Tryz.isAgg28
 z24 := Tryz.sizeOf28
 v24 := Tryz.zeroValue28
 i9 := by kernel_rfl
 iz := by kernel_rfl
 is := of_decide_eq_true (by kernel_rfl)
 ic := by kernel_rfl }
noncomputable abbrev z0j : Ent := zIO 55 (.pair .str (.pair (.int .i64) (.pair .bool (.pair tyRt (.pair (.int .i64) (.pair (.int .i64) .unit)))))) 72
theorem z3V : z0j.Ok Tryz.prog := zKb Tryz.insL55 (by kernel_rfl) Tryz.func55 (by decide +kernel) rfl (by kernel_rfl) (by kernel_rfl) rfl rfl
def zBO : List (Nat × Hint) := [(31, .join [(0, ⟨[3, 4], [(5, 2, (.pair (.int .i64) (.pair (.lst true (.pair .str (.pair (.int .i64) (.pair .bool (.pair tyRt (.pair (.int .i64) (.pair (.int .i64) .unit))))))) .unit))), (6, 0, (.int .i64))], []⟩)]), (4010, .loop ⟨[3, 4, 5, 34, 35], [(8, 0, (.int .i64)), (36, 0, (.int .i64))], []⟩ [(2, ⟨[3, 4, 5], [(8, 0, (.int .i64))], []⟩)]), (32083, .join [(0, ⟨[3, 4, 5, 34, 35, 36], [(8, 0, (.int .i64))], []⟩)])]
noncomputable def z28 : Ent := mkE tysC 28 [z3D, z1x, z0i, z0j] zBO Tryz.f28 [(.vw, (.pair (.int .i64) (.pair (.lst false (.pair .str (.pair (.int .i64) (.pair .bool (.pair tyRf (.pair (.int .i64) (.pair (.int .i64) .unit))))))) .unit))), (.own, (.pair .str (.pair (.int .i64) (.pair .bool (.pair tyRt (.pair (.int .i64) (.pair (.int .i64) .unit)))))))] true (.pair (.int .i64) (.pair (.lst true (.pair .str (.pair (.int .i64) (.pair .bool (.pair tyRt (.pair (.int .i64) (.pair (.int .i64) .unit))))))) .unit))
theorem z6A : z28.Ok Tryz.prog := z0E envC (z05 zAN (z05 z8V (z05 z3U (z05 z3V z0F)))) Tryz.func28 (by decide +kernel) (by kernel_rfl)
def zA7 : List (Nat × Hint) := [(6, .join [(0, ⟨[1, 2, 4], [(33, 0, .bool)], []⟩)])]
noncomputable def z2H : Ent := mkE tysC 10 [z1k, z2n, z0G, z28] zA7 Tryz.f10 [(.vw, (.pair (.int .i64) (.pair (.lst false (.pair .str (.pair (.int .i64) (.pair .bool (.pair tyRf (.pair (.int .i64) (.pair (.int .i64) .unit))))))) .unit))), (.vw, tyRf)] false (.pair (.pair (.int .i64) (.pair (.lst true (.pair .str (.pair (.int .i64) (.pair .bool (.pair tyRt (.pair (.int .i64) (.pair (.int .i64) .unit))))))) .unit)) (.pair .bool .unit))
theorem z9R : z2H.Ok Tryz.prog := z0E envC (z05 z5Z (z05 z7U (z05 z1d (z05 z6A z0F)))) Tryz.func10 (by decide +kernel) (by kernel_rfl)
def zBQ : List (Nat × Hint) := []
noncomputable def z3H : Ent := mkE tysC 31 [] zBQ Tryz.f31 [(.vw, tyR), (.vw, tyR)] true .bool
theorem zAQ : z3H.Ok Tryz.prog := z0E envC z0F Tryz.func31 (by decide +kernel) (by kernel_rfl)
def zAA : List (Nat × Hint) := [(58, .loop ⟨[0, 1], [(5, 0, (.int .i64))], []⟩ [(1, ⟨[4], [], []⟩), (2, ⟨[], [], []⟩)])]
noncomputable def z1O : Ent := mkE tysC 12 [z3H] zAA Tryz.f12 [(.vw, tyRf), (.vw, tyRf)] true .bool
theorem z5a : z1O.Ok Tryz.prog := z0E envC (z05 zAQ z0F) Tryz.func12 (by decide +kernel) (by kernel_rfl)
def zCv : List (Nat × Hint) := []
noncomputable def z30 : Ent := mkE tysC 56 [z1O] zCv Tryz.f56 [(.vw, (.pair .str (.pair (.int .i64) (.pair .bool (.pair tyRf (.pair (.int .i64) (.pair (.int .i64) .unit))))))), (.vw, (.pair .str (.pair (.int .i64) (.pair .bool (.pair tyRf (.pair (.int .i64) (.pair (.int .i64) .unit)))))))] true .bool
theorem zBw : z30.Ok Tryz.prog := z0E envC (z05 z5a z0F) Tryz.func56 (by decide +kernel) (by kernel_rfl)
def zBP : List (Nat × Hint) := [(58, .loop ⟨[0, 1], [(5, 0, (.int .i64))], []⟩ [(1, ⟨[4], [], []⟩), (2, ⟨[], [], []⟩)])]
noncomputable def z3G : Ent := mkE tysC 30 [z30] zBP Tryz.f30 [(.vw, (.lst false (.pair .str (.pair (.int .i64) (.pair .bool (.pair tyRf (.pair (.int .i64) (.pair (.int .i64) .unit)))))))), (.vw, (.lst false (.pair .str (.pair (.int .i64) (.pair .bool (.pair tyRf (.pair (.int .i64) (.pair (.int .i64) .unit))))))))] true .bool
theorem zAP : z3G.Ok Tryz.prog := z0E envC (z05 zBw z0F) Tryz.func30 (by decide +kernel) (by kernel_rfl)
def zCu : List (Nat × Hint) := []
noncomputable def z0e : Ent := mkE tysC 11 [z3G] zCu Tryz.f11 [(.vw, (.pair (.int .i64) (.pair (.lst false (.pair .str (.pair (.int .i64) (.pair .bool (.pair tyRf (.pair (.int .i64) (.pair (.int .i64) .unit))))))) .unit))), (.vw, (.pair (.int .i64) (.pair (.lst false (.pair .str (.pair (.int .i64) (.pair .bool (.pair tyRf (.pair (.int .i64) (.pair (.int .i64) .unit))))))) .unit)))] true .bool
theorem z6g : z0e.Ok Tryz.prog := z0E envC (z05 zAP z0F) Tryz.func11 (by decide +kernel) (by kernel_rfl)
def zBR : List (Nat × Hint) := [(60, .loop ⟨[], [(0, 0, (.int .i64)), (3, 0, .str)], []⟩ [(2, ⟨[], [(3, 0, .str)], []⟩)])]
noncomputable def z0d : Ent := mkE tysC 33 [] zBR Tryz.f33 [(.vw, (.int .i64))] true .str
theorem z3j : z0d.Ok Tryz.prog := z0E envC z0F Tryz.func33 (by decide +kernel) (by kernel_rfl)
def z8M : List (Nat × Hint) := [(26, .loop ⟨[], [(0, 0, tyRt), (1, 0, (.int .i64)), (5, 0, (.int .i64))], []⟩ [(2, ⟨[], [(0, 0, tyRt), (1, 0, (.int .i64))], []⟩)])]
noncomputable def z1J : Ent := mkE tysC 14 [z0d] z8M Tryz.f14 [(.io, tyRt), (.vw, (.int .i64))] true (.int .i64)
theorem z4p : z1J.Ok Tryz.prog := z0E envC (z05 z3j z0F) Tryz.func14 (by decide +kernel) (by kernel_rfl)
def z9E : List (Nat × Hint) := [(26, .loop ⟨[], [(0, 0, (.lst true (.pair .str (.pair (.int .i64) (.pair .bool (.pair tyRt (.pair (.int .i64) (.pair (.int .i64) .unit)))))))), (1, 0, (.int .i64)), (5, 0, (.int .i64))], []⟩ [(2, ⟨[], [(0, 0, (.lst true (.pair .str (.pair (.int .i64) (.pair .bool (.pair tyRt (.pair (.int .i64) (.pair (.int .i64) .unit)))))))), (1, 0, (.int .i64))], []⟩)])]
noncomputable def z2g : Ent := mkE tysC 32 [z0d, z1J] z9E Tryz.f32 [(.io, (.lst true (.pair .str (.pair (.int .i64) (.pair .bool (.pair tyRt (.pair (.int .i64) (.pair (.int .i64) .unit)))))))), (.vw, (.int .i64))] true (.int .i64)
theorem z8a : z2g.Ok Tryz.prog := z0E envC (z05 z3j (z05 z4p z0F)) Tryz.func32 (by decide +kernel) (by kernel_rfl)
def zAC : List (Nat × Hint) := []
noncomputable def z1A : Ent := mkE tysC 13 [z2g] zAC Tryz.f13 [(.io, (.pair (.int .i64) (.pair (.lst true (.pair .str (.pair (.int .i64) (.pair .bool (.pair tyRt (.pair (.int .i64) (.pair (.int .i64) .unit))))))) .unit))), (.vw, (.int .i64))] true (.int .i64)
theorem z5c : z1A.Ok Tryz.prog := z0E envC (z05 z8a z0F) Tryz.func13 (by decide +kernel) (by kernel_rfl)
def z8L : List (Nat × Hint) := [(26, .loop ⟨[0], [(1, 0, (.int .i64)), (5, 0, (.int .i64))], []⟩ [(1, ⟨[], [(4, 0, (.int .i64))], []⟩), (2, ⟨[], [(1, 0, (.int .i64))], []⟩)])]
noncomputable def z2M : Ent := mkE tysC 57 [z0d] z8L Tryz.f57 [(.vw, tyRf), (.vw, (.int .i64))] true (.int .i64)
theorem z7q : z2M.Ok Tryz.prog := z0E envC (z05 z3j z0F) Tryz.func57 (by decide +kernel) (by kernel_rfl)
def z9D : List (Nat × Hint) := [(26, .loop ⟨[0], [(1, 0, (.int .i64)), (5, 0, (.int .i64))], []⟩ [(1, ⟨[], [(4, 0, (.int .i64))], []⟩), (2, ⟨[], [(1, 0, (.int .i64))], []⟩)])]
noncomputable def z2f : Ent := mkE tysC 34 [z0d, z2M] z9D Tryz.f34 [(.vw, (.lst false (.pair .str (.pair (.int .i64) (.pair .bool (.pair tyRf (.pair (.int .i64) (.pair (.int .i64) .unit)))))))), (.vw, (.int .i64))] true (.int .i64)
theorem z8Z : z2f.Ok Tryz.prog := z0E envC (z05 z3j (z05 z7q z0F)) Tryz.func34 (by decide +kernel) (by kernel_rfl)
def zAB : List (Nat × Hint) := []
noncomputable def z0y : Ent := mkE tysC 15 [z2f] zAB Tryz.f15 [(.vw, (.pair (.int .i64) (.pair (.lst false (.pair .str (.pair (.int .i64) (.pair .bool (.pair tyRf (.pair (.int .i64) (.pair (.int .i64) .unit))))))) .unit))), (.vw, (.int .i64))] true (.int .i64)
theorem z5b : z0y.Ok Tryz.prog := z0E envC (z05 z8Z z0F) Tryz.func15 (by decide +kernel) (by kernel_rfl)
def z5t : List (Nat × Hint) := [(67108862, .join [(0, ⟨[10, 13], [(110, 0, .bool)], []⟩)]), (262142, .join [(0, ⟨[1, 2, 6, 7, 10], [(82, 0, .bool)], []⟩)]), (4094, .join [(0, ⟨[1, 2, 6, 7, 8, 9, 10, 11], [(53, 0, .bool)], []⟩)]), (0, .frz [29, 31])]
noncomputable def z2p : Ent := mkE tysC 3 [z1u, z1l, z2x, z0n, z0l, z2H, z0e, z1O, z1A, z1J, z0y, z4V, z56] z5t Tryz.f3 [(.vw, (.pair (.int .i64) (.pair (.lst false (.pair .str (.pair (.int .i64) (.pair .bool (.pair tyRf (.pair (.int .i64) (.pair (.int .i64) .unit))))))) .unit))), (.vw, tyRf)] true .bool
theorem ok_laws_FnExactPutAnswer : z2p.Ok Tryz.prog := z0E envC (z05 z6h (z05 z5d (z05 z9V (z05 z4q (z05 z47 (z05 z9R (z05 z6g (z05 z5a (z05 z5c (z05 z4p (z05 z5b (z05 z5e (z05 z7r z0F))))))))))))) Tryz.func3 (by decide +kernel) (by kernel_rfl)
def zD0 : List (Nat × Hint) := [(6, .join [(0, ⟨[1, 2, 3, 4, 8], [(27, 0, .bool)], []⟩)]), (0, .frz [30])]
noncomputable def z3e : Ent := mkE tysZ 16 [z1m, z1K, z2r, z0X, z2N, z4o] zD0 Tryz.f16 [(.vw, (.pair (.int .i64) (.pair (.lst false (.pair .str (.pair (.int .i64) (.pair .bool (.pair tyRf (.pair (.int .i64) (.pair (.int .i64) .unit))))))) .unit))), (.vw, .str), (.vw, (.int .i64)), (.vw, (.int .i64))] false (.pair (.pair (.int .i64) (.pair (.lst true (.pair .str (.pair (.int .i64) (.pair .bool (.pair tyRf (.pair (.int .i64) (.pair (.int .i64) .unit))))))) .unit)) (.pair .bool .unit))
theorem zBz : z3e.Ok Tryz.prog := z0E envZ (z05 z5f (z05 z4a (z05 z7W (z05 z3N (z05 z5N (z05 z6B z0F)))))) Tryz.func16 (by decide +kernel) (by kernel_rfl)
def zCr : List (Nat × Hint) := [(6, .join [(0, ⟨[1, 2, 3, 4, 8], [(27, 0, .bool)], []⟩)])]
noncomputable def z2z : Ent := mkE tysC 17 [z1k, z0w, z2o, z0W, z28] zCr Tryz.f17 [(.vw, (.pair (.int .i64) (.pair (.lst false (.pair .str (.pair (.int .i64) (.pair .bool (.pair tyRf (.pair (.int .i64) (.pair (.int .i64) .unit))))))) .unit))), (.vw, .str), (.vw, (.int .i64)), (.vw, (.int .i64))] false (.pair (.pair (.int .i64) (.pair (.lst true (.pair .str (.pair (.int .i64) (.pair .bool (.pair tyRt (.pair (.int .i64) (.pair (.int .i64) .unit))))))) .unit)) (.pair .bool .unit))
theorem zBt : z2z.Ok Tryz.prog := z0E envC (z05 z5Z (z05 z3i (z05 z7V (z05 z2T (z05 z6A z0F))))) Tryz.func17 (by decide +kernel) (by kernel_rfl)
def z6X : List (Nat × Hint) := [(4194302, .join [(0, ⟨[13, 16], [(105, 0, .bool)], []⟩)]), (16382, .join [(0, ⟨[1, 2, 3, 4, 10, 11, 13], [(76, 0, .bool)], []⟩)]), (1022, .join [(0, ⟨[1, 2, 3, 4, 10, 11, 12, 13, 14], [(55, 0, .bool)], []⟩)]), (0, .frz [30])]
noncomputable def z3F : Ent := mkE tysC 4 [z1u, z3e, z0n, z2z, z0e, z1A, z0y, z4V] z6X Tryz.f4 [(.vw, (.pair (.int .i64) (.pair (.lst false (.pair .str (.pair (.int .i64) (.pair .bool (.pair tyRf (.pair (.int .i64) (.pair (.int .i64) .unit))))))) .unit))), (.vw, .str), (.vw, (.int .i64)), (.vw, (.int .i64))] true .bool
theorem z6I : z3F.Ok Tryz.prog := z0E envC (z05 z6h (z05 zBz (z05 z4q (z05 zBt (z05 z6g (z05 z5c (z05 z5b (z05 z5e z0F)))))))) Tryz.func4 (by decide +kernel) (by kernel_rfl)
end Go.Proofs.YtkogmjbmbpcbeaaGreatDoor
