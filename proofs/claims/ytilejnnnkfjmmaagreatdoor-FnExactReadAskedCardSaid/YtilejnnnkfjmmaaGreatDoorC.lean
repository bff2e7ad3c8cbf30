/- The functions that the law reaches, each as a program of expressions. -/
import Derived.Test.YtilejnnnkfjmmaaGreatDoorLb1
import Derived.Test.YtilejnnnkfjmmaaGreatDoorProg
import Derived.KernelRfl
import Derived.Test.YtilejnnnkfjmmaaGreatDoorLays
set_option linter.unusedSectionVars false
set_option linter.unusedVariables false
set_option linter.unusedSimpArgs false
namespace Go.Proofs.YtilejnnnkfjmmaaGreatDoor
open Go Go.Own
set_option maxRecDepth 100000
instance glbI : Glb := Glb.at [(0, zLr .i64), (1, zJg), (2, zJg), (5, zLq (Lib.pow10Tab.map fun z => Value.int .u64 z).toArray)]
theorem z9i : ∀ h V, Glb.ok h V → ∃ m arr ty fz, h[Tryz.l146_ren.g 1]? = some (.cells arr ty fz) ∧ arr[0]? = some (.int .i64 m) :=
 fun _ _ h => zKa (h (0, zLr .i64) (by simp)).2
theorem zNB : ∀ h V, Glb.ok h V → ∃ ev arr ty fz, h[Tryz.l172_ren.g 15]? = some (.cells arr ty fz) ∧ arr[0]? = some ev ∧ (ev = .nilIface ∨ ∃ te pe, ev = .iface te pe) :=
 fun _ _ h => zHA (h (1, zJg) (by simp)).2
theorem zNA : ∀ h V, Glb.ok h V → ∃ ev arr ty fz, h[Tryz.l172_ren.g 16]? = some (.cells arr ty fz) ∧ arr[0]? = some ev ∧ (ev = .nilIface ∨ ∃ te pe, ev = .iface te pe) :=
 fun _ _ h => zHA (h (2, zJg) (by simp)).2
theorem zN9 : ∀ h V, Glb.ok h V → ∃ ty fz, h[5]? = some (.cells (Lib.pow10Tab.map fun z => Value.int .u64 z).toArray ty fz) :=
 fun _ _ h => zKZ (h (5, zLq (Lib.pow10Tab.map fun z => Value.int .u64 z).toArray) (by simp)).2
abbrev tyR : T := .pair .str (.pair (.int .i64) (.pair (.int .i64) (.pair .str .unit)))
abbrev tyD : T := .pair (.int .i64) (.pair (.int .i64) (.pair (.int .i64) (.pair (.int .i64) .unit)))
abbrev tyRf : T := .lst false tyR
abbrev tyRt : T := .lst true tyR
abbrev tyZf : T := .pair .str (.pair (.int .i64) (.pair tyRf .unit))
abbrev tyZt : T := .pair .str (.pair (.int .i64) (.pair tyRt .unit))
def tysC : List (TypeId × T × Nat) := [(3, (.int .i64), 0), (4, .bool, 0), (5, (.int .u8), 0), (9, .str, 0), (22, (.lst true (.pair (.int .i64) (.pair tyR .unit))), 56), (24, (.pair (.int .i64) (.pair (.int .i64) (.pair (.lst true (.pair (.int .i64) (.pair tyR .unit))) .unit))), 0), (30, (.lst true (.int .u8)), 1), (31, tyRt, 48), (33, tyZt, 0), (34, (.lst true tyD), 32), (36, (.pair tyZt (.pair (.lst true tyD) (.pair (.int .i64) .unit))), 0), (40, tyD, 0), (47, (.lst true (.pair (.int .i64) (.pair (.int .i64) (.pair (.lst true (.pair (.int .i64) (.pair tyR .unit))) .unit)))), 40), (57, tyR, 0), (59, (.pair (.int .i64) (.pair tyR .unit)), 0), (61, (.lst true .str), 16), (70, .err, 0), (76, (.int .u64), 0), (78, (.pair (.lst true (.int .u8)) (.pair (.int .i64) (.pair (.int .u64) .unit))), 0), (105, (.lst true (.int .i64)), 8), (147, (.int .u64), 0)]
theorem envC : ∀ sig n fx fr, EnvOk Tryz.prog ⟨tyOf tysC, ebOf tysC, sig, n, fx, fr⟩ := by
 refine EnvOk.ofL (fun sig n fx fr t ht => ?_) (by kernel_rfl)
 simp only [tysC, List.map_cons, List.map_nil, List.mem_cons] at ht
 rcases ht with rfl | ht
 ·exact ⟨Tryz.underlying3, rfl, by kernel_rfl, by kernel_rfl⟩
 rcases ht with rfl | ht
 ·exact ⟨Tryz.underlying4, rfl, by kernel_rfl, by kernel_rfl⟩
 rcases ht with rfl | ht
 ·exact ⟨Tryz.underlying5, rfl, by kernel_rfl, by kernel_rfl⟩
 rcases ht with rfl | ht
 ·exact ⟨Tryz.underlying9, rfl, by kernel_rfl, by kernel_rfl⟩
 rcases ht with rfl | ht
 ·exact ⟨⟨rfl, _, Tryz.underlying22, rfl, rfl, by kernel_rfl⟩, rfl, by kernel_rfl, by kernel_rfl⟩
 rcases ht with rfl | ht
 ·exact ⟨⟨_, Tryz.underlying24, rfl, rfl, rfl, rfl, rfl, rfl, rfl, rfl, rfl, trivial⟩, rfl, by kernel_rfl, by kernel_rfl⟩
 rcases ht with rfl | ht
 ·exact ⟨⟨rfl, _, Tryz.underlying30, rfl, rfl, by kernel_rfl⟩, rfl, by kernel_rfl, by kernel_rfl⟩
 rcases ht with rfl | ht
 ·exact ⟨⟨rfl, _, Tryz.underlying31, rfl, rfl, by kernel_rfl⟩, rfl, by kernel_rfl, by kernel_rfl⟩
 rcases ht with rfl | ht
 ·exact ⟨⟨_, Tryz.underlying33, rfl, rfl, rfl, rfl, rfl, rfl, rfl, rfl, rfl, trivial⟩, rfl, by kernel_rfl, by kernel_rfl⟩
 rcases ht with rfl | ht
 ·exact ⟨⟨rfl, _, Tryz.underlying34, rfl, rfl, by kernel_rfl⟩, rfl, by kernel_rfl, by kernel_rfl⟩
 rcases ht with rfl | ht
 ·exact ⟨⟨_, Tryz.underlying36, rfl, rfl, rfl, rfl, rfl, rfl, rfl, rfl, rfl, trivial⟩, rfl, by kernel_rfl, by kernel_rfl⟩
 rcases ht with rfl | ht
 ·exact ⟨⟨_, Tryz.underlying40, rfl, rfl, rfl, rfl, rfl, rfl, rfl, rfl, rfl, rfl, rfl, rfl, trivial⟩, rfl, by kernel_rfl, by kernel_rfl⟩
 rcases ht with rfl | ht
 ·exact ⟨⟨rfl, _, Tryz.underlying47, rfl, rfl, by kernel_rfl⟩, rfl, by kernel_rfl, by kernel_rfl⟩
 rcases ht with rfl | ht
 ·exact ⟨⟨_, Tryz.underlying57, rfl, rfl, rfl, rfl, rfl, rfl, rfl, rfl, rfl, rfl, rfl, rfl, trivial⟩, rfl, by kernel_rfl, by kernel_rfl⟩
 rcases ht with rfl | ht
 ·exact ⟨⟨_, Tryz.underlying59, rfl, rfl, rfl, rfl, rfl, rfl, trivial⟩, rfl, by kernel_rfl, by kernel_rfl⟩
 rcases ht with rfl | ht
 ·exact ⟨⟨rfl, _, Tryz.underlying61, rfl, rfl, by kernel_rfl⟩, rfl, by kernel_rfl, by kernel_rfl⟩
 rcases ht with rfl | ht
 ·exact ⟨⟨_, Tryz.underlying70⟩, rfl, by kernel_rfl, by kernel_rfl⟩
 rcases ht with rfl | ht
 ·exact ⟨Tryz.underlying76, rfl, by kernel_rfl, by kernel_rfl⟩
 rcases ht with rfl | ht
 ·exact ⟨⟨_, Tryz.underlying78, rfl, rfl, rfl, rfl, rfl, rfl, rfl, rfl, rfl, trivial⟩, rfl, by kernel_rfl, by kernel_rfl⟩
 rcases ht with rfl | ht
 ·exact ⟨⟨rfl, _, Tryz.underlying105, rfl, rfl, by kernel_rfl⟩, rfl, by kernel_rfl, by kernel_rfl⟩
 rcases ht with rfl | ht
 ·exact ⟨Tryz.underlying147, rfl, by kernel_rfl, by kernel_rfl⟩
 cases ht
def tysZ : List (TypeId × T × Nat) := [(3, (.int .i64), 0), (4, .bool, 0), (5, (.int .u8), 0), (9, .str, 0), (22, (.lst false (.pair (.int .i64) (.pair tyR .unit))), 56), (24, (.pair (.int .i64) (.pair (.int .i64) (.pair (.lst false (.pair (.int .i64) (.pair tyR .unit))) .unit))), 0), (30, (.lst true (.int .u8)), 1), (31, tyRf, 48), (33, tyZf, 0), (34, (.lst true tyD), 32), (36, (.pair tyZf (.pair (.lst true tyD) (.pair (.int .i64) .unit))), 0), (40, tyD, 0), (47, (.lst true (.pair (.int .i64) (.pair (.int .i64) (.pair (.lst false (.pair (.int .i64) (.pair tyR .unit))) .unit)))), 40), (57, tyR, 0), (59, (.pair (.int .i64) (.pair tyR .unit)), 0), (61, (.lst true .str), 16), (70, .err, 0), (76, (.int .u64), 0), (78, (.pair (.lst true (.int .u8)) (.pair (.int .i64) (.pair (.int .u64) .unit))), 0), (105, (.lst true (.int .i64)), 8), (147, (.int .u64), 0)]
theorem envZ : ∀ sig n fx fr, EnvOk Tryz.prog ⟨tyOf tysZ, ebOf tysZ, sig, n, fx, fr⟩ := by
 refine EnvOk.ofL (fun sig n fx fr t ht => ?_) (by kernel_rfl)
 simp only [tysZ, List.map_cons, List.map_nil, List.mem_cons] at ht
 rcases ht with rfl | ht
 ·exact ⟨Tryz.underlying3, rfl, by kernel_rfl, by kernel_rfl⟩
 rcases ht with rfl | ht
 ·exact ⟨Tryz.underlying4, rfl, by kernel_rfl, by kernel_rfl⟩
 rcases ht with rfl | ht
 ·exact ⟨Tryz.underlying5, rfl, by kernel_rfl, by kernel_rfl⟩
 rcases ht with rfl | ht
 ·exact ⟨Tryz.underlying9, rfl, by kernel_rfl, by kernel_rfl⟩
 rcases ht with rfl | ht
 ·exact ⟨⟨rfl, _, Tryz.underlying22, rfl, rfl, by kernel_rfl⟩, rfl, by kernel_rfl, by kernel_rfl⟩
 rcases ht with rfl | ht
 ·exact ⟨⟨_, Tryz.underlying24, rfl, rfl, rfl, rfl, rfl, rfl, rfl, rfl, rfl, trivial⟩, rfl, by kernel_rfl, by kernel_rfl⟩
 rcases ht with rfl | ht
 ·exact ⟨⟨rfl, _, Tryz.underlying30, rfl, rfl, by kernel_rfl⟩, rfl, by kernel_rfl, by kernel_rfl⟩
 rcases ht with rfl | ht
 ·exact ⟨⟨rfl, _, Tryz.underlying31, rfl, rfl, by kernel_rfl⟩, rfl, by kernel_rfl, by kernel_rfl⟩
 rcases ht with rfl | ht
 ·exact ⟨⟨_, Tryz.underlying33, rfl, rfl, rfl, rfl, rfl, rfl, rfl, rfl, rfl, trivial⟩, rfl, by kernel_rfl, by kernel_rfl⟩
 rcases ht with rfl | ht
 ·exact ⟨⟨rfl, _, Tryz.underlying34, rfl, rfl, by kernel_rfl⟩, rfl, by kernel_rfl, by kernel_rfl⟩
 rcases ht with rfl | ht
 ·exact ⟨⟨_, Tryz.underlying36, rfl, rfl, rfl, rfl, rfl, rfl, rfl, rfl, rfl, trivial⟩, rfl, by kernel_rfl, by kernel_rfl⟩
 rcases ht with rfl | ht
 ·exact ⟨⟨_, Tryz.underlying40, rfl, rfl, rfl, rfl, rfl, rfl, rfl, rfl, rfl, rfl, rfl, rfl, trivial⟩, rfl, by kernel_rfl, by kernel_rfl⟩
 rcases ht with rfl | ht
 ·exact ⟨⟨rfl, _, Tryz.underlying47, rfl, rfl, by kernel_rfl⟩, rfl, by kernel_rfl, by kernel_rfl⟩
 rcases ht with rfl | ht
 ·exact ⟨⟨_, Tryz.underlying57, rfl, rfl, rfl, rfl, rfl, rfl, rfl, rfl, rfl, rfl, rfl, rfl, trivial⟩, rfl, by kernel_rfl, by kernel_rfl⟩
 rcases ht with rfl | ht
 ·exact ⟨⟨_, Tryz.underlying59, rfl, rfl, rfl, rfl, rfl, rfl, trivial⟩, rfl, by kernel_rfl, by kernel_rfl⟩
 rcases ht with rfl | ht
 ·exact ⟨⟨rfl, _, Tryz.underlying61, rfl, rfl, by kernel_rfl⟩, rfl, by kernel_rfl, by kernel_rfl⟩
 rcases ht with rfl | ht
 ·exact ⟨⟨_, Tryz.underlying70⟩, rfl, by kernel_rfl, by kernel_rfl⟩
 rcases ht with rfl | ht
 ·exact ⟨Tryz.underlying76, rfl, by kernel_rfl, by kernel_rfl⟩
 rcases ht with rfl | ht
 ·exact ⟨⟨_, Tryz.underlying78, rfl, rfl, rfl, rfl, rfl, rfl, rfl, rfl, rfl, trivial⟩, rfl, by kernel_rfl, by kernel_rfl⟩
 rcases ht with rfl | ht
 ·exact ⟨⟨rfl, _, Tryz.underlying105, rfl, rfl, by kernel_rfl⟩, rfl, by kernel_rfl, by kernel_rfl⟩
 rcases ht with rfl | ht
 ·exact ⟨Tryz.underlying147, rfl, by kernel_rfl, by kernel_rfl⟩
 cases ht
def zEY : List (Nat × Hint) := [(122, .loop ⟨[0, 1], [(5, 0, (.lst true .str)), (6, 0, (.int .i64)), (7, 0, (.int .i64))], []⟩ [(2, ⟨[0], [(5, 0, (.lst true .str)), (6, 0, (.int .i64))], []⟩)]), (489, .join [(0, ⟨[0, 1, 7], [(5, 0, (.lst true .str)), (6, 0, (.int .i64))], []⟩)])]
noncomputable def z0z : Ent := mkE tysC 24 [] zEY Tryz.f24 [(.vw, .str), (.vw, (.int .u8))] true (.lst true .str)
theorem z58 : z0z.Ok Tryz.prog := z02 envC z01 Tryz.func24 (by decide +kernel) (by kernel_rfl)
noncomputable abbrev z7Y : Ent := z0z.frz
theorem zB8 : z7Y.Ok Tryz.prog := Ent.frz_ok z58
def zII : List (Nat × Hint) := [(3, .join [(0, ⟨[], [(6, 0, .bool)], []⟩)])]
noncomputable def z0X : Ent := mkE tysC 45 [] zII Tryz.f45 [(.vw, (.int .i64)), (.vw, (.int .i64)), (.vw, (.int .i64))] true .bool
theorem z2u : z0X.Ok Tryz.prog := z02 envC z01 Tryz.func45 (by decide +kernel) (by kernel_rfl)
def zH1 : List (Nat × Hint) := [(122, .loop ⟨[0], [(3, 0, (.int .i64)), (4, 0, (.int .i64))], []⟩ [(1, ⟨[], [(2, 0, (.int .i64))], []⟩), (2, ⟨[], [(3, 0, (.int .i64))], []⟩)]), (3912, .join [(0, ⟨[0, 3, 4], [(34, 0, .bool)], []⟩)]), (6, .join [(0, ⟨[0], [(18, 0, .bool)], []⟩)])]
noncomputable def z0u : Ent := mkE tysC 25 [z0X] zH1 Tryz.f25 [(.vw, .str)] true (.int .i64)
theorem z7P : z0u.Ok Tryz.prog := z02 envC (z00 z2u z01) Tryz.func25 (by decide +kernel) (by kernel_rfl)
def zDB : List (Nat × Hint) := [(58, .loop ⟨[], [(0, 0, (.int .i64)), (5, 0, (.lst true (.int .u8))), (6, 0, (.int .i64))], []⟩ [(2, ⟨[], [(5, 0, (.lst true (.int .u8)))], []⟩)])]
noncomputable def z1K : Ent := mkE tysC 132 [] zDB Tryz.f132 [(.vw, (.int .i64)), (.vw, (.int .i64))] true .str
theorem zCH : z1K.Ok Tryz.prog := z02 envC z01 Tryz.func132 (by decide +kernel) (by kernel_rfl)
def zEX : List (Nat × Hint) := [(58, .loop ⟨[0], [(3, 0, (.int .i64))], []⟩ [(1, ⟨[2], [], []⟩), (2, ⟨[0], [], []⟩)]), (1865, .join [(0, ⟨[0, 3], [(38, 0, .bool)], []⟩)])]
noncomputable def z2v : Ent := mkE tysC 172 [z0X] zEX Tryz.f172 [(.vw, .str)] true .bool
theorem zDa : z2v.Ok Tryz.prog := z02 envC (z00 z2u z01) Tryz.func172 (by decide +kernel) (by kernel_rfl)
def zD9 : List (Nat × Hint) := [(31, .join [(0, ⟨[], [(2, 0, (.lst true .str)), (3, 0, .bool)], []⟩)]), (122, .loop ⟨[0, 4, 11, 12], [(13, 0, (.int .i64))], []⟩ [(1, ⟨[2, 3], [], []⟩), (2, ⟨[0, 4], [], []⟩)])]
noncomputable def z0k : Ent := mkE tysC 135 [z0z, z2v] zD9 Tryz.f135 [(.vw, .str)] false (.pair (.lst true .str) (.pair .bool .unit))
theorem z3i : z0k.Ok Tryz.prog := z02 envC (z00 z58 (z00 zDa z01)) Tryz.func135 (by decide +kernel) (by kernel_rfl)
def zDC : List (Nat × Hint) := [(15, .join [(0, ⟨[], [(2, 0, .bool)], []⟩)]), (58, .loop ⟨[0, 3, 12, 13], [(4, 0, .bool), (14, 0, (.int .i64))], []⟩ [(2, ⟨[0], [(4, 0, .bool)], []⟩)]), (467, .join [(0, ⟨[0, 3, 12, 13, 14], [(4, 0, .bool)], []⟩)])]
noncomputable def z3K : Ent := mkE tysC 133 [z0k] zDC Tryz.f133 [(.vw, .str)] true .bool
theorem zCI : z3K.Ok Tryz.prog := z02 envC (z00 z3i z01) Tryz.func133 (by decide +kernel) (by kernel_rfl)
def zEZ : List (Nat × Hint) := [(122, .loop ⟨[3, 13, 14], [(5, 0, .str), (15, 0, (.int .i64))], []⟩ [(2, ⟨[], [(5, 0, .str)], []⟩)])]
noncomputable def z3p : Ent := mkE tysC 134 [z0k] zEZ Tryz.f134 [(.vw, .str)] true .str
theorem zDb : z3p.Ok Tryz.prog := z02 envC (z00 z3i z01) Tryz.func134 (by decide +kernel) (by kernel_rfl)
def zEa : List (Nat × Hint) := [(221170, .loop ⟨[1], [(13, 0, (.int .i64))], []⟩ [(1, ⟨[], [(4, 0, .str), (5, 0, .bool)], []⟩), (5, ⟨[1], [], []⟩)]), (3538724, .join [(0, ⟨[1, 13], [(104, 0, .bool)], []⟩)]), (27642, .join [(0, ⟨[12], [(76, 0, .bool)], []⟩)]), (107, .join [(0, ⟨[1, 14], [(39, 0, .bool)], []⟩)]), (3418, .loop ⟨[7, 19, 20], [(6, 0, .str), (21, 0, (.int .i64))], []⟩ [(1, ⟨[4, 5], [], []⟩), (3, ⟨[7], [(6, 0, .str)], []⟩)])]
noncomputable def z25 : Ent := mkE tysC 94 [z0z, z0u, z0X, z1K, z3K, z3p] zEa Tryz.f94 [(.vw, (.int .i64)), (.vw, .str)] false (.pair .str (.pair .bool .unit))
theorem z8E : z25.Ok Tryz.prog := z02 envC (z00 z58 (z00 z7P (z00 z2u (z00 zCH (z00 zCI (z00 zDb z01)))))) Tryz.func94 (by decide +kernel) (by kernel_rfl)
def zD6 : List (Nat × Hint) := []
noncomputable def z44 : Ent := mkE tysC 95 [z0k] zD6 Tryz.f95 [(.vw, .str)] true .bool
theorem zCF : z44.Ok Tryz.prog := z02 envC (z00 z3i z01) Tryz.func95 (by decide +kernel) (by kernel_rfl)
def zAg : List (Nat × Hint) := [(7, .join [(0, ⟨[], [(2, 0, .bool)], []⟩)])]
noncomputable def z1A : Ent := mkE tysC 58 [z25, z44, z0X] zAg Tryz.f58 [(.vw, tyR)] true .bool
theorem z56 : z1A.Ok Tryz.prog := z02 envC (z00 z8E (z00 zCF (z00 z2u z01))) Tryz.func58 (by decide +kernel) (by kernel_rfl)
def zBX : List (Nat × Hint) := []
noncomputable def zHs : Ent := ⟨93, [(.vw, (.int .i64))], true, .str, fun _ => none⟩
noncomputable def zBc : PE := (comp tysC [zHs] zBX Tryz.f93 [(.vw, (.int .i64))] true .str).getD .bot
noncomputable def z3h : Nat → List D → Option D
 | 0 => fun _ => none
 | k + 1 => zMA [⟨93, [(.vw, (.int .i64))], true, .str, z3h k⟩] zBc
noncomputable abbrev zBd (k : Nat) : Ent := ⟨93, [(.vw, (.int .i64))], true, .str, z3h k⟩
theorem z90 : ∀ k, (zBd k).Ok Tryz.prog
 | 0 => ⟨⟨Tryz.f93, Tryz.func93, by decide +kernel, by kernel_rfl⟩, fun _ _ _ h => by cases h⟩
 | k + 1 => Ent.ok_of (pe := zBc) (fn := Tryz.f93) (hs := zBX) envC (z00 (z90 k) z01) Tryz.func93 (by decide +kernel) (by kernel_rfl) rfl
noncomputable def z1E : Ent := zBd 40
theorem z66 : z1E.Ok Tryz.prog := z90 40
def zFz : List (Nat × Hint) := [(7, .join [(0, ⟨[1], [(3, 0, .str)], []⟩)])]
noncomputable def z3T : Ent := mkE tysC 59 [z1E] zFz Tryz.f59 [(.vw, tyR)] true .str
theorem z8w : z3T.Ok Tryz.prog := z02 envC (z00 z66 z01) Tryz.func59 (by decide +kernel) (by kernel_rfl)
def zAi : List (Nat × Hint) := [(126, .join [(0, ⟨[2, 5], [(53, 0, .bool)], []⟩)]), (31, .join [(0, ⟨[0, 2], [(5, 2, tyR)], []⟩)])]
noncomputable def z3I : Ent := mkE tysC 26 [z0z, z0u, z1A, z3T] zAi Tryz.f26 [(.vw, .str)] false (.pair tyR (.pair .bool .unit))
theorem zA4 : z3I.Ok Tryz.prog := z02 envC (z00 z58 (z00 z7P (z00 z56 (z00 z8w z01)))) Tryz.func26 (by decide +kernel) (by kernel_rfl)
def zFx : List (Nat × Hint) := [(3, .join [(0, ⟨[], [(4, 0, .bool)], []⟩)])]
noncomputable def z2P : Ent := mkE tysC 44 [z0X] zFx Tryz.f44 [(.vw, (.int .i64)), (.vw, (.int .i64))] true .bool
theorem z6n : z2P.Ok Tryz.prog := z02 envC (z00 z2u z01) Tryz.func44 (by decide +kernel) (by kernel_rfl)
def zEb : List (Nat × Hint) := [(26, .loop ⟨[0, 5, 6], [(7, 0, (.int .i64))], []⟩ [(1, ⟨[2], [], []⟩), (2, ⟨[0], [], []⟩)]), (1689, .join [(0, ⟨[0, 5, 6, 7], [(26, 0, .bool)], []⟩)])]
noncomputable def z2w : Ent := mkE tysC 56 [z0X, z1A] zEb Tryz.f56 [(.vw, (.lst false (.pair (.int .i64) (.pair tyR .unit))))] true .bool
theorem z8F : z2w.Ok Tryz.prog := z02 envC (z00 z2u (z00 z56 z01)) Tryz.func56 (by decide +kernel) (by kernel_rfl)
def zEV : List (Nat × Hint) := [(58, .loop ⟨[15, 16], [(3, 0, .str), (17, 0, (.int .i64))], []⟩ [(2, ⟨[], [(3, 0, .str)], []⟩)])]
noncomputable def z4P : Ent := mkE tysC 57 [z1E, z3T] zEV Tryz.f57 [(.vw, (.pair (.int .i64) (.pair (.int .i64) (.pair (.lst false (.pair (.int .i64) (.pair tyR .unit))) .unit))))] true .str
theorem zDZ : z4P.Ok Tryz.prog := z02 envC (z00 z66 (z00 z8w z01)) Tryz.func57 (by decide +kernel) (by kernel_rfl)
def zBy : List (Nat × Hint) := [(6, .join [(0, ⟨[1], [(15, 0, .bool)], []⟩)])]
noncomputable def z2M : Ent := mkE tysC 23 [z2P, z2w, z4P] zBy Tryz.f23 [(.vw, (.pair (.int .i64) (.pair (.int .i64) (.pair (.lst false (.pair (.int .i64) (.pair tyR .unit))) .unit))))] false (.pair .str (.pair .bool .unit))
theorem z79 : z2M.Ok Tryz.prog := z02 envC (z00 z6n (z00 z8F (z00 zDZ z01))) Tryz.func23 (by decide +kernel) (by kernel_rfl)
def zC0 : List (Nat × Hint) := [(509, .join [(0, ⟨[2, 6], [(74, 0, .bool)], []⟩)]), (506, .loop ⟨[0, 2, 33, 34], [(6, 2, (.pair (.int .i64) (.pair (.int .i64) (.pair (.lst true (.pair (.int .i64) (.pair tyR .unit))) .unit)))), (35, 0, (.int .i64))], []⟩ [(1, ⟨[3], [(2, 2, (.pair (.int .i64) (.pair (.int .i64) (.pair (.lst true (.pair (.int .i64) (.pair tyR .unit))) .unit))))], []⟩), (2, ⟨[0, 2], [(6, 2, (.pair (.int .i64) (.pair (.int .i64) (.pair (.lst true (.pair (.int .i64) (.pair tyR .unit))) .unit))))], []⟩)]), (0, .frz [14, 18])]
noncomputable def z3g : Ent := mkE tysC 5 [z0u, z3I, z2M, z7Y] zC0 Tryz.f5 [(.vw, .str)] false (.pair (.pair (.int .i64) (.pair (.int .i64) (.pair (.lst true (.pair (.int .i64) (.pair tyR .unit))) .unit))) (.pair .bool .unit))
theorem zB5 : z3g.Ok Tryz.prog := z02 envC (z00 z7P (z00 zA4 (z00 z79 (z00 zB8 z01)))) Tryz.func5 (by decide +kernel) (by kernel_rfl)
noncomputable abbrev z0r : Ent := zFS 27
theorem z5t : z0r.Ok Tryz.prog := zLO Tryz.l146 (by kernel_rfl) Tryz.func27 (by decide +kernel) rfl z9i
noncomputable abbrev z6u : Ent := z0r.frz
theorem zA9 : z6u.Ok Tryz.prog := Ent.frz_ok z5t
noncomputable abbrev z2Q : Ent := cutE 28
theorem z8z : z2Q.Ok Tryz.prog := zMa Tryz.l145 (by kernel_rfl) Tryz.func28 (by decide +kernel) rfl z9i
noncomputable abbrev z10 : Ent := zHv 29
theorem z6H : z10.Ok Tryz.prog := zLc Tryz.l172 (by kernel_rfl) Tryz.func29 (by decide +kernel) rfl zNB zNA
noncomputable abbrev z2o : Ent := zE9 64
theorem zB9 : z2o.Ok Tryz.prog := zJz Tryz.l147 (by kernel_rfl) Tryz.func64 (by decide +kernel) rfl z9i
def zD0 : List (Nat × Hint) := []
noncomputable def z1I : Ent := mkE tysC 146 [z0r] zD0 Tryz.f146 [(.vw, .str)] true (.lst true .str)
theorem z5s : z1I.Ok Tryz.prog := z02 envC (z00 z5t z01) Tryz.func146 (by decide +kernel) (by kernel_rfl)
def zFt : List (Nat × Hint) := [(3, .join [(0, ⟨[], [(6, 0, .bool)], []⟩)])]
noncomputable def z0Y : Ent := mkE tysC 41 [] zFt Tryz.f41 [(.vw, (.int .i64)), (.vw, (.int .i64)), (.vw, (.int .i64))] true .bool
theorem z2U : z0Y.Ok Tryz.prog := z02 envC z01 Tryz.func41 (by decide +kernel) (by kernel_rfl)
noncomputable abbrev z3q : Ent := zLU 179
theorem zDc : z3q.Ok Tryz.prog := zMF Tryz.l160 (by kernel_rfl) (by kernel_rfl) Tryz.func179 (by decide +kernel) rfl
def zEP : List (Nat × Hint) := [(7, .join [(0, ⟨[], [(2, 0, .bool)], []⟩)])]
noncomputable def z4O : Ent := mkE tysC 149 [z0Y, z3q] zEP Tryz.f149 [(.vw, .str)] true .bool
theorem zDU : z4O.Ok Tryz.prog := z02 envC (z00 z2U (z00 zDc z01)) Tryz.func149 (by decide +kernel) (by kernel_rfl)
def zAW : List (Nat × Hint) := []
noncomputable def z2V : Ent := mkE tysC 148 [z4O] zAW Tryz.f148 [(.vw, .str)] true .bool
theorem z9x : z2V.Ok Tryz.prog := z02 envC (z00 zDU z01) Tryz.func148 (by decide +kernel) (by kernel_rfl)
def z2g : List (Nat × Hint) := [(26, .loop ⟨[0, 1, 7], [(8, 0, (.int .i64))], []⟩ [(1, ⟨[], [(4, 0, (.int .i64))], []⟩), (2, ⟨[], [], []⟩)])]
noncomputable def z0N : Ent := mkE tysC 178 [z2V] z2g Tryz.f178 [(.vw, (.lst false .str)), (.vw, (.fn 148 .unit))] true (.int .i64)
theorem z2e : z0N.Ok Tryz.prog := z02 envC (z00 z9x z01) Tryz.func178 (by decide +kernel) (by kernel_rfl)
def z2Z : List (Nat × Hint) := []
noncomputable def z0G : Ent := mkE tysC 147 [z0N] z2Z Tryz.f147 [(.vw, (.lst false .str)), (.vw, (.fn 148 .unit))] true .bool
theorem z2S : z0G.Ok Tryz.prog := z02 envC (z00 z2e z01) Tryz.func147 (by decide +kernel) (by kernel_rfl)
def zCs : List (Nat × Hint) := [(15, .join [(0, ⟨[], [(2, 0, .bool)], []⟩)])]
noncomputable def z1X : Ent := mkE tysC 105 [z1I, z0G] zCs Tryz.f105 [(.vw, .str)] true .bool
theorem z5q : z1X.Ok Tryz.prog := z02 envC (z00 z5s (z00 z2S z01)) Tryz.func105 (by decide +kernel) (by kernel_rfl)
noncomputable abbrev z0n : Ent := zKb 92
theorem z5A : z0n.Ok Tryz.prog := zLs Tryz.l171 (by kernel_rfl) Tryz.func92 (by decide +kernel) rfl (by kernel_rfl) zN9
def zD1 : List (Nat × Hint) := [(7, .join [(0, ⟨[], [(4, 0, (.int .i64)), (5, 0, .bool)], []⟩)])]
noncomputable def z1Z : Ent := mkE tysC 150 [z10, z0Y, z0n] zD1 Tryz.f150 [(.vw, .str), (.vw, (.int .i64))] false (.pair (.int .i64) (.pair .bool .unit))
theorem zCC : z1Z.Ok Tryz.prog := z02 envC (z00 z6H (z00 z2U (z00 z5A z01))) Tryz.func150 (by decide +kernel) (by kernel_rfl)
def zJe : List (Nat × Hint) := [(58, .loop ⟨[0], [(5, 0, (.lst true (.int .u8))), (6, 0, (.int .i64))], []⟩ [(2, ⟨[], [(5, 0, (.lst true (.int .u8)))], []⟩)])]
noncomputable def z3E : Ent := mkE tysC 151 [] zJe Tryz.f151 [(.vw, (.int .i64)), (.vw, (.int .i64))] true .str
theorem zIP : z3E.Ok Tryz.prog := z02 envC z01 Tryz.func151 (by decide +kernel) (by kernel_rfl)
noncomputable abbrev z1F : Ent := z7o 180
theorem z6I : z1F.Ok Tryz.prog := zGi Tryz.l144 (by kernel_rfl) Tryz.func180 (by decide +kernel) rfl z9i
def zCz : List (Nat × Hint) := [(3, .join [(0, ⟨[], [(2, 0, .bool)], []⟩)])]
noncomputable def z3F : Ent := mkE tysC 152 [z1X, z1F] zCz Tryz.f152 [(.vw, .str)] true .bool
theorem zCB : z3F.Ok Tryz.prog := z02 envC (z00 z5q (z00 z6I z01)) Tryz.func152 (by decide +kernel) (by kernel_rfl)
def zAb : List (Nat × Hint) := [(58, .loop ⟨[7, 8], [(3, 0, .str), (9, 0, (.int .i64))], []⟩ [(2, ⟨[], [(3, 0, .str)], []⟩)])]
noncomputable def z2W : Ent := mkE tysC 153 [z1I] zAb Tryz.f153 [(.vw, .str)] true .str
theorem zA0 : z2W.Ok Tryz.prog := z02 envC (z00 z5s z01) Tryz.func153 (by decide +kernel) (by kernel_rfl)
def z9k : List (Nat × Hint) := [(3, .join [(0, ⟨[], [(2, 0, .bool)], []⟩)])]
noncomputable def z2I : Ent := mkE tysC 155 [] z9k Tryz.f155 [(.vw, (.int .u8))] true .bool
theorem z9M : z2I.Ok Tryz.prog := z02 envC z01 Tryz.func155 (by decide +kernel) (by kernel_rfl)
def z32 : List (Nat × Hint) := [(26, .loop ⟨[0, 1, 7], [(8, 0, (.int .i64))], []⟩ [(1, ⟨[], [(4, 0, (.int .i64))], []⟩), (2, ⟨[], [], []⟩)])]
noncomputable def z0U : Ent := mkE tysC 181 [z2I] z32 Tryz.f181 [(.vw, (.lst false (.int .u8))), (.vw, (.fn 155 .unit))] true (.int .i64)
theorem z2y : z0U.Ok Tryz.prog := z02 envC (z00 z9M z01) Tryz.func181 (by decide +kernel) (by kernel_rfl)
def z2f : List (Nat × Hint) := []
noncomputable def z0M : Ent := mkE tysC 154 [z0U] z2f Tryz.f154 [(.vw, (.lst false (.int .u8))), (.vw, (.fn 155 .unit))] true .bool
theorem z2d : z0M.Ok Tryz.prog := z02 envC (z00 z2y z01) Tryz.func154 (by decide +kernel) (by kernel_rfl)
def zBl : List (Nat × Hint) := [(55292, .join [(0, ⟨[1], [(103, 0, .bool)], []⟩)]), (55286, .join [(0, ⟨[15, 17], [(87, 0, .bool)], []⟩)]), (107, .join [(0, ⟨[1, 19], [(48, 0, .bool)], []⟩)]), (3418, .loop ⟨[7, 24, 25], [(6, 0, .str), (26, 0, (.int .i64))], []⟩ [(1, ⟨[4, 5], [], []⟩), (3, ⟨[], [(6, 0, .str)], []⟩)]), (875110, .join [(0, ⟨[6, 7, 10, 24, 25, 26], [(41, 0, .bool)], []⟩)])]
noncomputable def z1f : Ent := mkE tysC 106 [z0r, z1Z, z3E, z3F, z2W, z2Q, z0M] zBl Tryz.f106 [(.vw, (.int .i64)), (.vw, .str)] false (.pair .str (.pair .bool .unit))
theorem z73 : z1f.Ok Tryz.prog := z02 envC (z00 z5t (z00 zCC (z00 zIP (z00 zCB (z00 zA0 (z00 z8z (z00 z2d z01))))))) Tryz.func106 (by decide +kernel) (by kernel_rfl)
def zAX : List (Nat × Hint) := [(6, .join [(0, ⟨[1], [(20, 0, .bool)], []⟩)])]
noncomputable def z19 : Ent := mkE tysC 65 [z1X, z0Y, z1f] zAX Tryz.f65 [(.vw, tyR)] true .bool
theorem z54 : z19.Ok Tryz.prog := z02 envC (z00 z5q (z00 z2U (z00 z73 z01))) Tryz.func65 (by decide +kernel) (by kernel_rfl)
def zIH : List (Nat × Hint) := []
noncomputable def z6E : Ent := mkE tysC 107 [] zIH Tryz.f107 [(.vw, .str)] true .str
theorem zHK : z6E.Ok Tryz.prog := z02 envC z01 Tryz.func107 (by decide +kernel) (by kernel_rfl)
def zAd : List (Nat × Hint) := []
noncomputable def z1y : Ent := mkE tysC 66 [z6E, z0n] zAd Tryz.f66 [(.vw, tyR)] true .str
theorem z6Z : z1y.Ok Tryz.prog := z02 envC (z00 zHK (z00 z5A z01)) Tryz.func66 (by decide +kernel) (by kernel_rfl)
def zAZ : List (Nat × Hint) := [(510, .join [(0, ⟨[2, 5], [(52, 0, .bool)], []⟩)]), (31, .join [(0, ⟨[0, 2, 4], [(5, 2, tyR)], []⟩)]), (14, .join [(0, ⟨[0, 2, 4], [(15, 0, .bool)], []⟩)])]
noncomputable def z3D : Ent := mkE tysC 30 [z2o, z10, z19, z1y] zAZ Tryz.f30 [(.vw, .str)] false (.pair tyR (.pair .bool .unit))
theorem z9z : z3D.Ok Tryz.prog := z02 envC (z00 zB9 (z00 z6H (z00 z54 (z00 z6Z z01)))) Tryz.func30 (by decide +kernel) (by kernel_rfl)
def zCx : List (Nat × Hint) := [(3, .join [(0, ⟨[], [(4, 0, .bool)], []⟩)])]
noncomputable def z1Y : Ent := mkE tysC 42 [z0Y] zCx Tryz.f42 [(.vw, (.int .i64)), (.vw, (.int .i64))] true .bool
theorem z5r : z1Y.Ok Tryz.prog := z02 envC (z00 z2U z01) Tryz.func42 (by decide +kernel) (by kernel_rfl)
def z9B : List (Nat × Hint) := [(3, .join [(0, ⟨[], [(2, 0, .bool)], []⟩)])]
noncomputable def z1x : Ent := mkE tysC 91 [z0Y, z19] z9B Tryz.f91 [(.vw, (.pair (.int .i64) (.pair tyR .unit)))] true .bool
theorem z8m : z1x.Ok Tryz.prog := z02 envC (z00 z2U (z00 z54 z01)) Tryz.func91 (by decide +kernel) (by kernel_rfl)
def z1h : List (Nat × Hint) := [(26, .loop ⟨[0, 1, 7], [(8, 0, (.int .i64))], []⟩ [(1, ⟨[], [(4, 0, (.int .i64))], []⟩), (2, ⟨[], [], []⟩)])]
noncomputable def z0B : Ent := mkE tysC 130 [z1x] z1h Tryz.f130 [(.vw, (.lst false (.pair (.int .i64) (.pair tyR .unit)))), (.vw, (.fn 91 .unit))] true (.int .i64)
theorem z1e : z0B.Ok Tryz.prog := z02 envC (z00 z8m z01) Tryz.func130 (by decide +kernel) (by kernel_rfl)
def z1U : List (Nat × Hint) := []
noncomputable def z09 : Ent := mkE tysC 90 [z0B] z1U Tryz.f90 [(.vw, (.lst false (.pair (.int .i64) (.pair tyR .unit)))), (.vw, (.fn 91 .unit))] true .bool
theorem z1T : z09.Ok Tryz.prog := z02 envC (z00 z1e z01) Tryz.func90 (by decide +kernel) (by kernel_rfl)
def zAa : List (Nat × Hint) := [(3, .join [(0, ⟨[], [(2, 0, .bool)], []⟩)])]
noncomputable def z1w : Ent := mkE tysC 54 [z09] zAa Tryz.f54 [(.vw, (.lst false (.pair (.int .i64) (.pair tyR .unit))))] true .bool
theorem z6Y : z1w.Ok Tryz.prog := z02 envC (z00 z1T z01) Tryz.func54 (by decide +kernel) (by kernel_rfl)
def zBq : List (Nat × Hint) := [(58, .loop ⟨[15, 16], [(3, 0, .str), (17, 0, (.int .i64))], []⟩ [(2, ⟨[], [(3, 0, .str)], []⟩)])]
noncomputable def z3c : Ent := mkE tysC 55 [z0n, z1y] zBq Tryz.f55 [(.vw, (.pair (.int .i64) (.pair (.int .i64) (.pair (.lst false (.pair (.int .i64) (.pair tyR .unit))) .unit))))] true .str
theorem zAx : z3c.Ok Tryz.prog := z02 envC (z00 z5A (z00 z6Z z01)) Tryz.func55 (by decide +kernel) (by kernel_rfl)
def zBk : List (Nat × Hint) := [(6, .join [(0, ⟨[1], [(15, 0, .bool)], []⟩)])]
noncomputable def z2L : Ent := mkE tysC 22 [z1Y, z1w, z3c] zBk Tryz.f22 [(.vw, (.pair (.int .i64) (.pair (.int .i64) (.pair (.lst false (.pair (.int .i64) (.pair tyR .unit))) .unit))))] false (.pair .str (.pair .bool .unit))
theorem z72 : z2L.Ok Tryz.prog := z02 envC (z00 z5r (z00 z6Y (z00 zAx z01))) Tryz.func22 (by decide +kernel) (by kernel_rfl)
def zBn : List (Nat × Hint) := [(2045, .join [(0, ⟨[2, 8], [(93, 0, .bool)], []⟩)]), (2042, .loop ⟨[0, 2, 48, 49], [(8, 2, (.pair (.int .i64) (.pair (.int .i64) (.pair (.lst true (.pair (.int .i64) (.pair tyR .unit))) .unit)))), (50, 0, (.int .i64))], []⟩ [(1, ⟨[3], [(2, 2, (.pair (.int .i64) (.pair (.int .i64) (.pair (.lst true (.pair (.int .i64) (.pair tyR .unit))) .unit))))], []⟩), (2, ⟨[0, 2], [(8, 2, (.pair (.int .i64) (.pair (.int .i64) (.pair (.lst true (.pair (.int .i64) (.pair tyR .unit))) .unit))))], []⟩)]), (0, .frz [21])]
noncomputable def z1g : Ent := mkE tysC 6 [z2Q, z10, z3D, z2L, z6u] zBn Tryz.f6 [(.vw, .str)] false (.pair (.pair (.int .i64) (.pair (.int .i64) (.pair (.lst true (.pair (.int .i64) (.pair tyR .unit))) .unit))) (.pair .bool .unit))
theorem z74 : z1g.Ok Tryz.prog := z02 envC (z00 z8z (z00 z6H (z00 z9z (z00 z72 (z00 zA9 z01))))) Tryz.func6 (by decide +kernel) (by kernel_rfl)
def zD3 : List (Nat × Hint) := []
noncomputable def z43 : Ent := mkE tysC 108 [] zD3 Tryz.f108 [(.vw, tyR), (.vw, tyR)] true .bool
theorem zCE : z43.Ok Tryz.prog := z02 envC z01 Tryz.func108 (by decide +kernel) (by kernel_rfl)
def zD2 : List (Nat × Hint) := []
noncomputable def z42 : Ent := mkE tysC 67 [z43] zD2 Tryz.f67 [(.vw, (.pair (.int .i64) (.pair tyR .unit))), (.vw, (.pair (.int .i64) (.pair tyR .unit)))] true .bool
theorem zCD : z42.Ok Tryz.prog := z02 envC (z00 zCE z01) Tryz.func67 (by decide +kernel) (by kernel_rfl)
def zBu : List (Nat × Hint) := [(58, .loop ⟨[0, 1], [(5, 0, (.int .i64))], []⟩ [(1, ⟨[4], [], []⟩), (2, ⟨[], [], []⟩)])]
noncomputable def z3e : Ent := mkE tysC 31 [z42] zBu Tryz.f31 [(.vw, (.lst false (.pair (.int .i64) (.pair tyR .unit)))), (.vw, (.lst false (.pair (.int .i64) (.pair tyR .unit))))] true .bool
theorem zB0 : z3e.Ok Tryz.prog := z02 envC (z00 zCD z01) Tryz.func31 (by decide +kernel) (by kernel_rfl)
def zES : List (Nat × Hint) := []
noncomputable def z3m : Ent := mkE tysC 7 [z3e] zES Tryz.f7 [(.vw, (.pair (.int .i64) (.pair (.int .i64) (.pair (.lst false (.pair (.int .i64) (.pair tyR .unit))) .unit)))), (.vw, (.pair (.int .i64) (.pair (.int .i64) (.pair (.lst false (.pair (.int .i64) (.pair tyR .unit))) .unit))))] true .bool
theorem zDX : z3m.Ok Tryz.prog := z02 envC (z00 zB0 z01) Tryz.func7 (by decide +kernel) (by kernel_rfl)
def zD4 : List (Nat × Hint) := [(60, .loop ⟨[], [(0, 0, (.int .i64)), (3, 0, .str)], []⟩ [(2, ⟨[], [(3, 0, .str)], []⟩)])]
noncomputable def z1J : Ent := mkE tysC 68 [] zD4 Tryz.f68 [(.vw, (.int .i64))] true .str
theorem z7a : z1J.Ok Tryz.prog := z02 envC z01 Tryz.func68 (by decide +kernel) (by kernel_rfl)
def z9o : List (Nat × Hint) := [(26, .loop ⟨[], [(0, 0, (.lst true (.pair (.int .i64) (.pair tyR .unit)))), (1, 0, (.int .i64)), (5, 0, (.int .i64))], []⟩ [(2, ⟨[], [(0, 0, (.lst true (.pair (.int .i64) (.pair tyR .unit)))), (1, 0, (.int .i64))], []⟩)])]
noncomputable def z2r : Ent := mkE tysC 32 [z1J] z9o Tryz.f32 [(.io, (.lst true (.pair (.int .i64) (.pair tyR .unit)))), (.vw, (.int .i64))] true (.int .i64)
theorem z9P : z2r.Ok Tryz.prog := z02 envC (z00 z7a z01) Tryz.func32 (by decide +kernel) (by kernel_rfl)
def zBw : List (Nat × Hint) := []
noncomputable def z3f : Ent := mkE tysC 8 [z2r] zBw Tryz.f8 [(.io, (.pair (.int .i64) (.pair (.int .i64) (.pair (.lst true (.pair (.int .i64) (.pair tyR .unit))) .unit)))), (.vw, (.int .i64))] true (.int .i64)
theorem zB2 : z3f.Ok Tryz.prog := z02 envC (z00 z9P z01) Tryz.func8 (by decide +kernel) (by kernel_rfl)
def z9n : List (Nat × Hint) := [(26, .loop ⟨[0], [(1, 0, (.int .i64)), (5, 0, (.int .i64))], []⟩ [(1, ⟨[], [(4, 0, (.int .i64))], []⟩), (2, ⟨[], [(1, 0, (.int .i64))], []⟩)])]
noncomputable def z2q : Ent := mkE tysC 33 [z1J] z9n Tryz.f33 [(.vw, (.lst false (.pair (.int .i64) (.pair tyR .unit)))), (.vw, (.int .i64))] true (.int .i64)
theorem z9O : z2q.Ok Tryz.prog := z02 envC (z00 z7a z01) Tryz.func33 (by decide +kernel) (by kernel_rfl)
def zBv : List (Nat × Hint) := []
noncomputable def z2l : Ent := mkE tysC 9 [z2q] zBv Tryz.f9 [(.vw, (.pair (.int .i64) (.pair (.int .i64) (.pair (.lst false (.pair (.int .i64) (.pair tyR .unit))) .unit)))), (.vw, (.int .i64))] true (.int .i64)
theorem zB1 : z2l.Ok Tryz.prog := z02 envC (z00 z9O z01) Tryz.func9 (by decide +kernel) (by kernel_rfl)
def z7I : List (Nat × Hint) := [(16382, .join [(0, ⟨[5, 7], [(57, 0, .bool)], []⟩)]), (62, .join [(0, ⟨[0, 3, 4, 5], [(32, 0, .bool)], []⟩)])]
noncomputable def z3P : Ent := mkE tysC 3 [z3g, z1g, z3m, z3f, z2l] z7I Tryz.f3 [(.vw, .str)] true .bool
theorem z78 : z3P.Ok Tryz.prog := z02 envC (z00 zB5 (z00 z74 (z00 zDX (z00 zB2 (z00 zB1 z01))))) Tryz.func3 (by decide +kernel) (by kernel_rfl)
def zAk : List (Nat × Hint) := [(7, .join [(0, ⟨[0], [(3, 0, (.int .i64))], []⟩)])]
noncomputable def z3J : Ent := mkE tysC 109 [] zAk Tryz.f109 [(.iop, (.pair (.lst false (.int .u8)) (.pair (.int .i64) (.pair (.int .u64) .unit))))] true (.int .i64)
theorem zA5 : z3J.Ok Tryz.prog := z02 envC z01 Tryz.func109 (by decide +kernel) (by kernel_rfl)
def zAl : List (Nat × Hint) := [(15, .join [(0, ⟨[1], [(0, 2, (.pair (.lst false (.int .u8)) (.pair (.int .i64) (.pair (.int .u64) .unit)))), (5, 0, (.int .i64))], []⟩)])]
noncomputable def z03 : Ent := mkE tysC 69 [z3J] zAl Tryz.f69 [(.iop, (.pair (.lst false (.int .u8)) (.pair (.int .i64) (.pair (.int .u64) .unit)))), (.vw, (.int .i64))] true (.int .i64)
theorem z13 : z03.Ok Tryz.prog := z02 envC (z00 zA5 z01) Tryz.func69 (by decide +kernel) (by kernel_rfl)
def zC3 : List (Nat × Hint) := []
noncomputable def z0e : Ent := mkE tysC 49 [z03] zC3 Tryz.f49 [(.iop, (.pair (.lst false (.int .u8)) (.pair (.int .i64) (.pair (.int .u64) .unit)))), (.vw, (.int .i64))] true .bool
theorem z4J : z0e.Ok Tryz.prog := z02 envC (z00 z13 z01) Tryz.func49 (by decide +kernel) (by kernel_rfl)
def z9r : List (Nat × Hint) := []
noncomputable def z0b : Ent := mkE tysC 70 [z03] z9r Tryz.f70 [(.iop, (.pair (.lst false (.int .u8)) (.pair (.int .i64) (.pair (.int .u64) .unit)))), (.vw, (.lst false (.int .i64)))] true (.int .i64)
theorem z3W : z0b.Ok Tryz.prog := z02 envC (z00 z13 z01) Tryz.func70 (by decide +kernel) (by kernel_rfl)
def zD8 : List (Nat × Hint) := []
noncomputable def z0j : Ent := mkE tysC 87 [z03] zD8 Tryz.f87 [(.iop, (.pair (.lst false (.int .u8)) (.pair (.int .i64) (.pair (.int .u64) .unit)))), (.vw, (.lst false .str))] true .str
theorem z4a : z0j.Ok Tryz.prog := z02 envC (z00 z13 z01) Tryz.func87 (by decide +kernel) (by kernel_rfl)
def zAj : List (Nat × Hint) := [(122, .loop ⟨[], [(0, 2, (.pair (.lst false (.int .u8)) (.pair (.int .i64) (.pair (.int .u64) .unit)))), (3, 0, .str), (4, 0, (.int .i64))], []⟩ [(3, ⟨[], [(0, 2, (.pair (.lst false (.int .u8)) (.pair (.int .i64) (.pair (.int .u64) .unit)))), (3, 0, .str)], []⟩)]), (0, .frz [10, 15, 18, 27])]
noncomputable def z2Y : Ent := mkE tysC 50 [z03, z0j] zAj Tryz.f50 [(.iop, (.pair (.lst false (.int .u8)) (.pair (.int .i64) (.pair (.int .u64) .unit))))] true .str
theorem z6b : z2Y.Ok Tryz.prog := z02 envC (z00 z13 (z00 z4a z01)) Tryz.func50 (by decide +kernel) (by kernel_rfl)
def z9G : List (Nat × Hint) := [(0, .frz [4])]
noncomputable def z2b : Ent := mkE tysC 182 [z0j] z9G Tryz.f182 [(.iop, (.pair (.lst false (.int .u8)) (.pair (.int .i64) (.pair (.int .u64) .unit))))] true .str
theorem z8r : z2b.Ok Tryz.prog := z02 envC (z00 z4a z01) Tryz.func182 (by decide +kernel) (by kernel_rfl)
def z9F : List (Nat × Hint) := [(15, .join [(0, ⟨[2], [(0, 2, (.pair (.lst false (.int .u8)) (.pair (.int .i64) (.pair (.int .u64) .unit)))), (3, 2, tyR)], []⟩)]), (7, .join [(0, ⟨[2], [(0, 2, (.pair (.lst false (.int .u8)) (.pair (.int .i64) (.pair (.int .u64) .unit)))), (3, 2, tyR)], []⟩)]), (235, .join [(0, ⟨[0, 2, 3, 14], [(25, 0, .bool)], []⟩)]), (0, .frz [7, 10, 22, 16, 52, 58])]
noncomputable def z3S : Ent := mkE tysC 156 [z2Y, z0b, z0j, z2b, z03, z1E] z9F Tryz.f156 [(.iop, (.pair (.lst false (.int .u8)) (.pair (.int .i64) (.pair (.int .u64) .unit))))] true tyR
theorem z8q : z3S.Ok Tryz.prog := z02 envC (z00 z6b (z00 z3W (z00 z4a (z00 z8r (z00 z13 (z00 z66 z01)))))) Tryz.func156 (by decide +kernel) (by kernel_rfl)
def z9E : List (Nat × Hint) := [(127, .join [(0, ⟨[2], [(0, 2, (.pair (.lst false (.int .u8)) (.pair (.int .i64) (.pair (.int .u64) .unit)))), (3, 2, tyR)], []⟩)]), (254, .join [(0, ⟨[2, 3], [(0, 2, (.pair (.lst false (.int .u8)) (.pair (.int .i64) (.pair (.int .u64) .unit)))), (35, 0, .bool)], []⟩)]), (63, .join [(0, ⟨[2], [(0, 2, (.pair (.lst false (.int .u8)) (.pair (.int .i64) (.pair (.int .u64) .unit)))), (3, 2, tyR)], []⟩)]), (126, .join [(0, ⟨[2, 3], [(0, 2, (.pair (.lst false (.int .u8)) (.pair (.int .i64) (.pair (.int .u64) .unit)))), (21, 0, .bool)], []⟩)]), (0, .frz [10])]
noncomputable def z3R : Ent := mkE tysC 110 [z3S, z0e, z0j] z9E Tryz.f110 [(.iop, (.pair (.lst false (.int .u8)) (.pair (.int .i64) (.pair (.int .u64) .unit))))] true tyR
theorem z8p : z3R.Ok Tryz.prog := z02 envC (z00 z8q (z00 z4J (z00 z4a z01))) Tryz.func110 (by decide +kernel) (by kernel_rfl)
def z9s : List (Nat × Hint) := [(63, .join [(0, ⟨[], [(0, 2, (.pair (.lst false (.int .u8)) (.pair (.int .i64) (.pair (.int .u64) .unit)))), (3, 0, (.lst true (.pair (.int .i64) (.pair tyR .unit))))], []⟩)]), (124, .loop ⟨[], [(0, 2, (.pair (.lst false (.int .u8)) (.pair (.int .i64) (.pair (.int .u64) .unit)))), (3, 0, (.lst true (.pair (.int .i64) (.pair tyR .unit)))), (4, 0, (.int .i64))], []⟩ [(2, ⟨[], [(0, 2, (.pair (.lst false (.int .u8)) (.pair (.int .i64) (.pair (.int .u64) .unit)))), (3, 0, (.lst true (.pair (.int .i64) (.pair tyR .unit))))], []⟩)]), (15, .join [(0, ⟨[3], [(0, 2, (.pair (.lst false (.int .u8)) (.pair (.int .i64) (.pair (.int .u64) .unit)))), (4, 0, (.int .i64))], []⟩)]), (0, .frz [19, 2])]
noncomputable def z3v : Ent := mkE tysC 71 [z03, z0e, z0b, z3R] z9s Tryz.f71 [(.iop, (.pair (.lst false (.int .u8)) (.pair (.int .i64) (.pair (.int .u64) .unit))))] true (.lst true (.pair (.int .i64) (.pair tyR .unit)))
theorem z9R : z3v.Ok Tryz.prog := z02 envC (z00 z13 (z00 z4J (z00 z3W (z00 z8p z01)))) Tryz.func71 (by decide +kernel) (by kernel_rfl)
def z6x : List (Nat × Hint) := [(7, .join [(0, ⟨[2], [(0, 2, (.pair (.lst false (.int .u8)) (.pair (.int .i64) (.pair (.int .u64) .unit)))), (3, 2, (.pair (.int .i64) (.pair (.int .i64) (.pair (.lst true (.pair (.int .i64) (.pair tyR .unit))) .unit))))], []⟩)]), (0, .frz [17, 23])]
noncomputable def z0l : Ent := mkE tysC 35 [z03, z3v, z0b] z6x Tryz.f35 [(.iop, (.pair (.lst false (.int .u8)) (.pair (.int .i64) (.pair (.int .u64) .unit))))] true (.pair (.int .i64) (.pair (.int .i64) (.pair (.lst true (.pair (.int .i64) (.pair tyR .unit))) .unit)))
theorem z2z : z0l.Ok Tryz.prog := z02 envC (z00 z13 (z00 z9R (z00 z3W z01))) Tryz.func35 (by decide +kernel) (by kernel_rfl)
noncomputable abbrev z4L : Ent := z0l.frz
theorem z6G : z4L.Ok Tryz.prog := Ent.frz_ok z2z
def z7f : List (Nat × Hint) := [(31, .join [(0, ⟨[], [(0, 2, (.pair (.lst false (.int .u8)) (.pair (.int .i64) (.pair (.int .u64) .unit)))), (3, 0, (.lst true (.pair (.int .i64) (.pair (.int .i64) (.pair (.lst false (.pair (.int .i64) (.pair tyR .unit))) .unit)))))], []⟩)]), (500, .loop ⟨[], [(0, 2, (.pair (.lst false (.int .u8)) (.pair (.int .i64) (.pair (.int .u64) .unit)))), (3, 0, (.lst true (.pair (.int .i64) (.pair (.int .i64) (.pair (.lst false (.pair (.int .i64) (.pair tyR .unit))) .unit)))))], []⟩ [(4, ⟨[], [(0, 2, (.pair (.lst false (.int .u8)) (.pair (.int .i64) (.pair (.int .u64) .unit)))), (3, 0, (.lst true (.pair (.int .i64) (.pair (.int .i64) (.pair (.lst false (.pair (.int .i64) (.pair tyR .unit))) .unit)))))], []⟩)]), (60, .loop ⟨[], [(0, 2, (.pair (.lst false (.int .u8)) (.pair (.int .i64) (.pair (.int .u64) .unit)))), (3, 0, (.lst true (.pair (.int .i64) (.pair (.int .i64) (.pair (.lst false (.pair (.int .i64) (.pair tyR .unit))) .unit))))), (4, 0, (.int .i64))], []⟩ [(2, ⟨[], [(0, 2, (.pair (.lst false (.int .u8)) (.pair (.int .i64) (.pair (.int .u64) .unit)))), (3, 0, (.lst true (.pair (.int .i64) (.pair (.int .i64) (.pair (.lst false (.pair (.int .i64) (.pair tyR .unit))) .unit)))))], []⟩)]), (241, .join [(0, ⟨[4], [(0, 2, (.pair (.lst false (.int .u8)) (.pair (.int .i64) (.pair (.int .u64) .unit)))), (3, 0, (.lst true (.pair (.int .i64) (.pair (.int .i64) (.pair (.lst false (.pair (.int .i64) (.pair tyR .unit))) .unit)))))], []⟩)]), (1929, .join [(0, ⟨[3, 4], [(0, 2, (.pair (.lst false (.int .u8)) (.pair (.int .i64) (.pair (.int .u64) .unit)))), (5, 2, (.pair (.int .i64) (.pair (.int .i64) (.pair (.lst false (.pair (.int .i64) (.pair tyR .unit))) .unit))))], []⟩)]), (0, .frz [2, 13])]
noncomputable def z1H : Ent := mkE tysZ 51 [z03, z0e, z4L] z7f Tryz.f51 [(.iop, (.pair (.lst false (.int .u8)) (.pair (.int .i64) (.pair (.int .u64) .unit))))] true (.lst true (.pair (.int .i64) (.pair (.int .i64) (.pair (.lst false (.pair (.int .i64) (.pair tyR .unit))) .unit))))
theorem z57 : z1H.Ok Tryz.prog := z02 envZ (z00 z13 (z00 z4J (z00 z6G z01))) Tryz.func51 (by decide +kernel) (by kernel_rfl)
def zG0 : List (Nat × Hint) := [(58, .loop ⟨[3, 12, 13], [(4, 0, .bool), (14, 0, (.int .i64))], []⟩ [(2, ⟨[], [(4, 0, .bool)], []⟩)]), (467, .join [(0, ⟨[3, 12, 13, 14], [(4, 0, .bool)], []⟩)])]
noncomputable def z4D : Ent := mkE tysC 127 [z0k] zG0 Tryz.f127 [(.vw, .str)] true .bool
theorem z8x : z4D.Ok Tryz.prog := z02 envC (z00 z3i z01) Tryz.func127 (by decide +kernel) (by kernel_rfl)
def zET : List (Nat × Hint) := []
noncomputable def z5W : Ent := mkE tysC 89 [z4D] zET Tryz.f89 [(.vw, .str)] false (.pair tyZt (.pair .bool .unit))
theorem zDY : z5W.Ok Tryz.prog := z02 envC (z00 z8x z01) Tryz.func89 (by decide +kernel) (by kernel_rfl)
def zAh : List (Nat × Hint) := []
noncomputable def z4B : Ent := mkE tysC 53 [z5W] zAh Tryz.f53 [(.vw, .str)] false (.pair (.pair tyZt (.pair (.lst true tyD) (.pair (.int .i64) .unit))) (.pair .bool .unit))
theorem zA3 : z4B.Ok Tryz.prog := z02 envC (z00 zDY z01) Tryz.func53 (by decide +kernel) (by kernel_rfl)
def zH5 : List (Nat × Hint) := []
noncomputable def z2s : Ent := mkE tysC 76 [] zH5 Tryz.f76 [(.vw, tyZf)] true tyZt
theorem zA6 : z2s.Ok Tryz.prog := z02 envC z01 Tryz.func76 (by decide +kernel) (by kernel_rfl)
def zFw : List (Nat × Hint) := []
noncomputable def z3Q : Ent := mkE tysC 38 [z2s] zFw Tryz.f38 [(.vw, (.pair tyZf (.pair (.lst false tyD) (.pair (.int .i64) .unit))))] true (.pair tyZt (.pair (.lst true tyD) (.pair (.int .i64) .unit)))
theorem z8v : z3Q.Ok Tryz.prog := z02 envC (z00 zA6 z01) Tryz.func38 (by decide +kernel) (by kernel_rfl)
def zC2 : List (Nat × Hint) := [(122, .loop ⟨[5, 7], [(9, 0, (.int .i64))], []⟩ [(1, ⟨[], [(4, 0, (.int .i64))], []⟩), (2, ⟨[5, 7], [], []⟩)]), (488, .join [(0, ⟨[5, 7, 9], [(31, 0, .bool)], []⟩)])]
noncomputable def z4Z : Ent := mkE tysC 187 [z0k] zC2 Tryz.f187 [(.vw, .str), (.vw, .str)] true (.int .i64)
theorem zB7 : z4Z.Ok Tryz.prog := z02 envC (z00 z3i z01) Tryz.func187 (by decide +kernel) (by kernel_rfl)
def zFy : List (Nat × Hint) := []
noncomputable def z4C : Ent := mkE tysC 188 [] zFy Tryz.f188 [(.vw, .bool)] true (.int .i64)
theorem zEi : z4C.Ok Tryz.prog := z02 envC z01 Tryz.func188 (by decide +kernel) (by kernel_rfl)
def zC4 : List (Nat × Hint) := []
noncomputable def z2n : Ent := mkE tysC 162 [z4Z, z25, z4C] zC4 Tryz.f162 [(.vw, tyR), (.vw, tyR)] true (.int .i64)
theorem z7B : z2n.Ok Tryz.prog := z02 envC (z00 zB7 (z00 z8E (z00 zEi z01))) Tryz.func162 (by decide +kernel) (by kernel_rfl)
def zG2 : List (Nat × Hint) := [(26, .loop ⟨[0, 5, 6], [(7, 0, (.int .i64))], []⟩ [(1, ⟨[2], [], []⟩), (2, ⟨[0], [], []⟩)]), (1689, .join [(0, ⟨[0, 5, 6, 7], [(28, 0, .bool)], []⟩)])]
noncomputable def z63 : Ent := mkE tysC 128 [z1A, z2n] zG2 Tryz.f128 [(.vw, tyRf)] true .bool
theorem zEk : z63.Ok Tryz.prog := z02 envC (z00 z56 (z00 z7B z01)) Tryz.func128 (by decide +kernel) (by kernel_rfl)
def zEW : List (Nat × Hint) := [(7, .join [(0, ⟨[], [(4, 0, .bool)], []⟩)])]
noncomputable def z3o : Ent := mkE tysC 163 [] zEW Tryz.f163 [(.vw, .str), (.vw, .str)] true .bool
theorem z8C : z3o.Ok Tryz.prog := z02 envC z01 Tryz.func163 (by decide +kernel) (by kernel_rfl)
def zH4 : List (Nat × Hint) := [(26, .loop ⟨[1, 2, 9, 10], [(11, 0, (.int .i64))], []⟩ [(1, ⟨[], [(6, 0, .bool)], []⟩), (2, ⟨[], [], []⟩)]), (1689, .join [(0, ⟨[1, 2, 9, 10, 11], [(24, 0, .bool)], []⟩)])]
noncomputable def z3N : Ent := mkE tysC 119 [] zH4 Tryz.f119 [(.vw, tyRf), (.vw, .str), (.vw, (.int .i64))] true .bool
theorem z7Q : z3N.Ok Tryz.prog := z02 envC z01 Tryz.func119 (by decide +kernel) (by kernel_rfl)
def zDA : List (Nat × Hint) := [(26, .loop ⟨[0], [(3, 0, (.int .i64))], []⟩ [(1, ⟨[], [(2, 0, .str)], []⟩), (2, ⟨[], [], []⟩)])]
noncomputable def z4v : Ent := mkE tysC 189 [] zDA Tryz.f189 [(.vw, .str)] true .str
theorem zCG : z4v.Ok Tryz.prog := z02 envC z01 Tryz.func189 (by decide +kernel) (by kernel_rfl)
def zH3 : List (Nat × Hint) := [(60, .loop ⟨[0, 1], [(2, 0, .str), (8, 0, .str), (9, 0, .bool)], []⟩ [(2, ⟨[], [(8, 0, .str), (9, 0, .bool)], []⟩)]), (482, .join [(0, ⟨[0, 1, 2], [(8, 0, .str), (9, 0, .bool)], []⟩)]), (240, .join [(0, ⟨[0, 1, 2, 8, 9], [(17, 0, .bool)], []⟩)])]
noncomputable def z6T : Ent := mkE tysC 164 [z3o, z3N, z4v] zH3 Tryz.f164 [(.vw, .str), (.vw, tyRf), (.vw, .str)] false (.pair .str (.pair .bool .unit))
theorem zGB : z6T.Ok Tryz.prog := z02 envC (z00 z8C (z00 z7Q (z00 zCG z01))) Tryz.func164 (by decide +kernel) (by kernel_rfl)
def zG3 : List (Nat × Hint) := [(2042, .loop ⟨[0, 1, 132, 133], [(134, 0, (.int .i64))], []⟩ [(1, ⟨[], [(4, 0, (.int .i64))], []⟩), (10, ⟨[], [], []⟩)]), (261427, .join [(0, ⟨[0, 1, 132, 133, 134], [(162, 0, .bool)], []⟩)]), (506, .loop ⟨[0, 1, 97, 98], [(99, 0, (.int .i64))], []⟩ [(1, ⟨[], [(4, 0, (.int .i64))], []⟩), (6, ⟨[0, 1], [], []⟩)]), (129638, .loop ⟨[0, 1, 11, 97, 98, 99, 106, 107], [(108, 0, (.int .i64))], []⟩ [(1, ⟨[], [(4, 0, (.int .i64))], []⟩), (8, ⟨[0, 1, 97, 98, 99], [], []⟩)]), (8296857, .join [(0, ⟨[0, 1, 11, 97, 98, 99, 106, 107, 108], [(126, 0, .bool)], []⟩)]), (250, .loop ⟨[0, 1, 43, 44], [(45, 0, (.int .i64))], []⟩ [(1, ⟨[], [(4, 0, (.int .i64))], []⟩), (4, ⟨[0, 1], [], []⟩)]), (16025, .join [(0, ⟨[0, 1, 43, 44, 45], [(95, 0, .bool)], []⟩)]), (58, .loop ⟨[0, 1, 18, 19], [(5, 0, (.int .i64)), (20, 0, (.int .i64))], []⟩ [(1, ⟨[], [(4, 0, (.int .i64))], []⟩), (2, ⟨[0, 1], [(5, 0, (.int .i64))], []⟩)]), (467, .join [(0, ⟨[0, 1, 18, 19, 20], [(5, 0, (.int .i64))], []⟩), (1, ⟨[], [(4, 0, (.int .i64))], []⟩)])]
noncomputable def z4E : Ent := mkE tysC 122 [z3o, z3N, z6T] zG3 Tryz.f122 [(.vw, .str), (.vw, tyRf)] true (.int .i64)
theorem z8y : z4E.Ok Tryz.prog := z02 envC (z00 z8C (z00 z7Q (z00 zGB z01))) Tryz.func122 (by decide +kernel) (by kernel_rfl)
def zFv : List (Nat × Hint) := [(6, .join [(0, ⟨[0, 1], [(12, 0, .bool)], []⟩)])]
noncomputable def z62 : Ent := mkE tysC 82 [z4D, z63, z4E] zFv Tryz.f82 [(.vw, .str), (.vw, tyRf)] true (.int .i64)
theorem zEh : z62.Ok Tryz.prog := z02 envC (z00 z8x (z00 zEk (z00 z8y z01))) Tryz.func82 (by decide +kernel) (by kernel_rfl)
def zH6 : List (Nat × Hint) := []
noncomputable def z4i : Ent := mkE tysC 83 [z1E] zH6 Tryz.f83 [(.vw, tyZf)] true .str
theorem zA7 : z4i.Ok Tryz.prog := z02 envC (z00 z66 z01) Tryz.func83 (by decide +kernel) (by kernel_rfl)
def zD7 : List (Nat × Hint) := [(58, .loop ⟨[1, 18, 19], [(20, 0, (.int .i64))], []⟩ [(1, ⟨[], [(2, 0, .bool)], []⟩), (2, ⟨[], [], []⟩)]), (3737, .join [(0, ⟨[1, 18, 19, 20], [(33, 0, .bool)], []⟩)]), (6, .join [(0, ⟨[1], [(16, 0, .bool)], []⟩)])]
noncomputable def z3H : Ent := mkE tysC 47 [z0X, z62, z4i] zD7 Tryz.f47 [(.vw, tyZf)] true .bool
theorem z7c : z3H.Ok Tryz.prog := z02 envC (z00 z2u (z00 zEh (z00 zA7 z01))) Tryz.func47 (by decide +kernel) (by kernel_rfl)
def zG1 : List (Nat × Hint) := [(58, .loop ⟨[3, 8, 9], [(5, 0, tyRt), (10, 0, (.int .i64))], []⟩ [(2, ⟨[], [(5, 0, tyRt)], []⟩)]), (467, .join [(0, ⟨[3, 8, 9, 10], [(5, 0, tyRt)], []⟩)]), (3737, .join [(0, ⟨[3, 5, 7, 8, 9, 10], [(32, 0, .bool)], []⟩)]), (0, .frz [4])]
noncomputable def z4x : Ent := mkE tysC 120 [] zG1 Tryz.f120 [(.vw, tyRf), (.vw, tyR)] true tyRt
theorem zEj : z4x.Ok Tryz.prog := z02 envC z01 Tryz.func120 (by decide +kernel) (by kernel_rfl)
def zH2 : List (Nat × Hint) := [(30, .join [(0, ⟨[0, 3, 5], [(33, 0, .bool)], []⟩)]), (28, .loop ⟨[0, 3], [(5, 0, (.int .i64))], []⟩ [(2, ⟨[0, 3], [(5, 0, (.int .i64))], []⟩)]), (112, .join [(0, ⟨[0, 3, 5], [(19, 0, .bool)], []⟩)]), (0, .frz [4])]
noncomputable def z6S : Ent := mkE tysC 121 [z2n] zH2 Tryz.f121 [(.own, tyRt), (.vw, tyR)] true tyRt
theorem zGA : z6S.Ok Tryz.prog := z02 envC (z00 z7B z01) Tryz.func121 (by decide +kernel) (by kernel_rfl)
def zAf : List (Nat × Hint) := [(8186, .loop ⟨[4, 9, 108, 109], [(12, 2, tyZt), (110, 0, (.int .i64))], []⟩ [(7, ⟨[4], [(12, 2, tyZt)], []⟩)]), (523929, .join [(0, ⟨[4, 9, 12, 108, 109, 110], [(14, 2, tyR)], []⟩)]), (254, .join [(0, ⟨[2, 4, 9], [(92, 0, .bool)], []⟩)]), (506, .loop ⟨[2, 4, 61, 62], [(9, 0, tyRt), (63, 0, (.int .i64))], []⟩ [(4, ⟨[2, 4], [(9, 0, tyRt)], []⟩)]), (4051, .join [(0, ⟨[2, 4, 61, 62, 63], [(9, 0, tyRt)], []⟩)]), (122, .loop ⟨[1, 2, 4, 24, 25], [(26, 0, (.int .i64))], []⟩ [(1, ⟨[], [(4, 2, tyZt), (5, 0, (.int .i64))], []⟩), (2, ⟨[1, 2, 4], [], []⟩)]), (15667, .join [(0, ⟨[1, 2, 4, 24, 25, 26], [(53, 0, .bool)], []⟩)])]
noncomputable def z4A : Ent := mkE tysC 75 [z3H, z2w, z2s, z3N, z4x, z6S, z4E, z4i] zAf Tryz.f75 [(.vw, tyZf), (.vw, (.lst false (.pair (.int .i64) (.pair tyR .unit))))] false (.pair tyZt (.pair (.int .i64) .unit))
theorem zA2 : z4A.Ok Tryz.prog := z02 envC (z00 z7c (z00 z8F (z00 zA6 (z00 z7Q (z00 zEj (z00 zGA (z00 z8y (z00 zA7 z01)))))))) Tryz.func75 (by decide +kernel) (by kernel_rfl)
def zEU : List (Nat × Hint) := [(8191, .join [(0, ⟨[2, 4, 5, 9, 11, 12], [(7, 0, (.int .i64))], []⟩)]), (254, .join [(0, ⟨[2, 3, 4, 5, 7, 8], [(99, 0, .bool)], []⟩)]), (126, .join [(0, ⟨[2, 3, 4, 5, 7, 8], [(66, 0, .bool)], []⟩)]), (31, .join [(0, ⟨[2, 3, 4, 5, 7], [(8, 0, .bool)], []⟩)]), (60, .loop ⟨[2, 3, 4, 5], [(7, 0, (.int .i64))], []⟩ [(2, ⟨[2, 3, 4, 5], [(7, 0, (.int .i64))], []⟩)]), (240, .join [(0, ⟨[2, 3, 4, 5, 7], [(36, 0, .bool)], []⟩)]), (0, .frz [67])]
noncomputable def z3n : Ent := mkE tysC 37 [z2P, z4A] zEU Tryz.f37 [(.own, (.pair tyZt (.pair (.lst true tyD) (.pair (.int .i64) .unit)))), (.vw, (.pair (.int .i64) (.pair (.int .i64) (.pair (.lst false (.pair (.int .i64) (.pair tyR .unit))) .unit))))] false (.pair (.pair tyZt (.pair (.lst true tyD) (.pair (.int .i64) .unit))) (.pair tyD (.pair .bool .unit)))
theorem z8B : z3n.Ok Tryz.prog := z02 envC (z00 z6n (z00 zA2 z01)) Tryz.func37 (by decide +kernel) (by kernel_rfl)
def zBz : List (Nat × Hint) := [(250, .loop ⟨[4, 28, 29], [(7, 2, (.pair tyZt (.pair (.lst true tyD) (.pair (.int .i64) .unit)))), (9, 0, (.lst true tyD)), (30, 0, (.int .i64))], []⟩ [(2, ⟨[4], [(7, 2, (.pair tyZt (.pair (.lst true tyD) (.pair (.int .i64) .unit)))), (9, 0, (.lst true tyD))], []⟩)]), (32051, .join [(0, ⟨[4, 9, 13, 28, 29, 30], [(7, 2, (.pair tyZt (.pair (.lst true tyD) (.pair (.int .i64) .unit))))], []⟩)]), (14, .join [(0, ⟨[1, 4, 7], [(26, 0, .bool)], []⟩)]), (0, .frz [5])]
noncomputable def z2m : Ent := mkE tysC 19 [z4B, z3Q, z3n] zBz Tryz.f19 [(.vw, .str), (.vw, (.lst false (.pair (.int .i64) (.pair (.int .i64) (.pair (.lst false (.pair (.int .i64) (.pair tyR .unit))) .unit)))))] false (.pair (.pair tyZt (.pair (.lst true tyD) (.pair (.int .i64) .unit))) (.pair (.lst true tyD) (.pair .bool .unit)))
theorem z7A : z2m.Ok Tryz.prog := z02 envC (z00 zA3 (z00 z8v (z00 z8B z01))) Tryz.func19 (by decide +kernel) (by kernel_rfl)
def z8k : List (Nat × Hint) := [(31, .join [(0, ⟨[2], [(0, 2, (.pair (.lst false (.int .u8)) (.pair (.int .i64) (.pair (.int .u64) .unit)))), (4, 2, (.pair tyZt (.pair (.lst true tyD) (.pair (.int .i64) .unit))))], []⟩)]), (7, .join [(0, ⟨[0, 2], [(3, 0, (.lst true (.pair (.int .i64) (.pair (.int .i64) (.pair (.lst false (.pair (.int .i64) (.pair tyR .unit))) .unit)))))], []⟩)]), (0, .frz [25])]
noncomputable def z39 : Ent := mkE tysC 34 [z1H, z2m, z03, z0b] z8k Tryz.f34 [(.iop, (.pair (.lst false (.int .u8)) (.pair (.int .i64) (.pair (.int .u64) .unit))))] true (.pair tyZt (.pair (.lst true tyD) (.pair (.int .i64) .unit)))
theorem z8D : z39.Ok Tryz.prog := z02 envC (z00 z57 (z00 z7A (z00 z13 (z00 z3W z01)))) Tryz.func34 (by decide +kernel) (by kernel_rfl)
def z8j : List (Nat × Hint) := []
noncomputable def z38 : Ent := mkE tysC 10 [z39, z0l] z8j Tryz.f10 [(.vw, (.lst false (.int .u8)))] false (.pair (.pair tyZt (.pair (.lst true tyD) (.pair (.int .i64) .unit))) (.pair (.pair (.int .i64) (.pair (.int .i64) (.pair (.lst true (.pair (.int .i64) (.pair tyR .unit))) .unit))) .unit))
theorem z8A : z38.Ok Tryz.prog := z02 envC (z00 z8D (z00 z2z z01)) Tryz.func10 (by decide +kernel) (by kernel_rfl)
def zBt : List (Nat × Hint) := []
noncomputable def z4W : Ent := mkE tysC 78 [z0Y] zBt Tryz.f78 [(.vw, (.int .i64))] true .bool
theorem zAz : z4W.Ok Tryz.prog := z02 envC (z00 z2U z01) Tryz.func78 (by decide +kernel) (by kernel_rfl)
def zFr : List (Nat × Hint) := [(3, .join [(0, ⟨[], [(2, 0, .bool)], []⟩)])]
noncomputable def z60 : Ent := mkE tysC 165 [z1X, z1F] zFr Tryz.f165 [(.vw, .str)] true .bool
theorem zEf : z60.Ok Tryz.prog := z02 envC (z00 z5q (z00 z6I z01)) Tryz.func165 (by decide +kernel) (by kernel_rfl)
def z5e : List (Nat × Hint) := [(6, .loop ⟨[], [(0, 0, (.lst true .str)), (2, 0, (.int .i64)), (3, 0, (.int .i64))], []⟩ [(2, ⟨[], [(0, 0, (.lst true .str))], []⟩)])]
noncomputable def z0t : Ent := mkE tysC 224 [] z5e Tryz.f224 [(.io, (.lst true .str))] false .unit
theorem z5M : z0t.Ok Tryz.prog := z02 envC z01 Tryz.func224 (by decide +kernel) (by kernel_rfl)
def z9j : List (Nat × Hint) := []
noncomputable def z2p : Ent := mkE tysC 231 [] z9j Tryz.f231 [(.vw, .str)] true .bool
theorem z9L : z2p.Ok Tryz.prog := z02 envC z01 Tryz.func231 (by decide +kernel) (by kernel_rfl)
def z8g : List (Nat × Hint) := []
noncomputable def z34 : Ent := mkE tysC 230 [z2p] z8g Tryz.f230 [(.vw, .str), (.vw, .str)] true (.int .i64)
theorem z84 : z34.Ok Tryz.prog := z02 envC (z00 z9L z01) Tryz.func230 (by decide +kernel) (by kernel_rfl)
def z5d : List (Nat × Hint) := [(26, .loop ⟨[0, 1, 9, 10], [(11, 0, (.int .i64))], []⟩ [(1, ⟨[], [(4, 0, (.int .i64))], []⟩), (2, ⟨[0, 1], [], []⟩)])]
noncomputable def z1D : Ent := mkE tysC 225 [z34] z5d Tryz.f225 [(.vw, (.lst false .str)), (.vw, (.lst false .str))] true (.int .i64)
theorem z5L : z1D.Ok Tryz.prog := z02 envC (z00 z84 z01) Tryz.func225 (by decide +kernel) (by kernel_rfl)
def z9C : List (Nat × Hint) := []
noncomputable def z3O : Ent := mkE tysC 217 [z1I, z0t, z1D] z9C Tryz.f217 [(.vw, .str), (.vw, .str)] true (.int .i64)
theorem z8n : z3O.Ok Tryz.prog := z02 envC (z00 z5s (z00 z5M (z00 z5L z01))) Tryz.func217 (by decide +kernel) (by kernel_rfl)
def zCq : List (Nat × Hint) := []
noncomputable def z3z : Ent := mkE tysC 129 [] zCq Tryz.f129 [(.vw, (.int .i64))] true .bool
theorem zC5 : z3z.Ok Tryz.prog := z02 envC z01 Tryz.func129 (by decide +kernel) (by kernel_rfl)
def zAV : List (Nat × Hint) := []
noncomputable def z1S : Ent := mkE tysC 86 [z3z] zAV Tryz.f86 [(.vw, (.int .i64)), (.vw, (.int .i64))] true (.int .i64)
theorem z52 : z1S.Ok Tryz.prog := z02 envC (z00 zC5 z01) Tryz.func86 (by decide +kernel) (by kernel_rfl)
def zGz : List (Nat × Hint) := [(58, .loop ⟨[3, 6, 7], [(8, 0, (.int .i64))], []⟩ [(1, ⟨[], [(2, 0, (.int .i64))], []⟩), (2, ⟨[3], [], []⟩)])]
noncomputable def z4h : Ent := mkE tysC 202 [] zGz Tryz.f202 [(.vw, (.lst false (.int .i64)))] true (.int .i64)
theorem z9w : z4h.Ok Tryz.prog := z02 envC z01 Tryz.func202 (by decide +kernel) (by kernel_rfl)
def z9m : List (Nat × Hint) := []
noncomputable def z3t : Ent := mkE tysC 203 [z3O, z1S, z4h] z9m Tryz.f203 [(.vw, tyR), (.vw, tyR)] true (.int .i64)
theorem z9N : z3t.Ok Tryz.prog := z02 envC (z00 z8n (z00 z52 (z00 z9w z01))) Tryz.func203 (by decide +kernel) (by kernel_rfl)
def zBs : List (Nat × Hint) := []
noncomputable def z3d : Ent := mkE tysC 205 [z1f] zBs Tryz.f205 [(.vw, (.int .i64)), (.vw, .str)] true .str
theorem zAy : z3d.Ok Tryz.prog := z02 envC (z00 z73 z01) Tryz.func205 (by decide +kernel) (by kernel_rfl)
noncomputable abbrev z5K : Ent := zFZ 204
theorem zA8 : z5K.Ok Tryz.prog := zI1 Tryz.l106 (by kernel_rfl) Tryz.func204 (by decide +kernel) rfl
def z7v : List (Nat × Hint) := []
noncomputable def z15 : Ent := mkE tysC 185 [z3t, z3d, z5K, z1S, z4h] z7v Tryz.f185 [(.vw, tyR), (.vw, tyR)] true (.int .i64)
theorem z5H : z15.Ok Tryz.prog := z02 envC (z00 z9N (z00 zAy (z00 zA8 (z00 z52 (z00 z9w z01))))) Tryz.func185 (by decide +kernel) (by kernel_rfl)
def zBp : List (Nat × Hint) := [(26, .loop ⟨[0, 5, 6], [(7, 0, (.int .i64))], []⟩ [(1, ⟨[2], [], []⟩), (2, ⟨[], [], []⟩)]), (1689, .join [(0, ⟨[0, 5, 6, 7], [(28, 0, .bool)], []⟩)])]
noncomputable def z4V : Ent := mkE tysC 166 [z19, z15] zBp Tryz.f166 [(.vw, tyRf)] true .bool
theorem zAw : z4V.Ok Tryz.prog := z02 envC (z00 z54 (z00 z5H z01)) Tryz.func166 (by decide +kernel) (by kernel_rfl)
def zEQ : List (Nat × Hint) := [(3, .join [(0, ⟨[], [(4, 0, .bool)], []⟩)])]
noncomputable def z5U : Ent := mkE tysC 123 [z60, z4V] zEQ Tryz.f123 [(.vw, .str), (.vw, tyRf)] true .bool
theorem zDV : z5U.Ok Tryz.prog := z02 envC (z00 zEf (z00 zAw z01)) Tryz.func123 (by decide +kernel) (by kernel_rfl)
def z5E : List (Nat × Hint) := [(3, .join [(0, ⟨[], [(4, 0, .bool)], []⟩)])]
noncomputable def z14 : Ent := mkE tysC 208 [] z5E Tryz.f208 [(.vw, .str), (.vw, .str)] true .bool
theorem z55 : z14.Ok Tryz.prog := z02 envC z01 Tryz.func208 (by decide +kernel) (by kernel_rfl)
def z9H : List (Nat × Hint) := []
noncomputable def z3U : Ent := mkE tysC 190 [z14] z9H Tryz.f190 [(.vw, .str), (.vw, .str)] true .bool
theorem z8s : z3U.Ok Tryz.prog := z02 envC (z00 z55 z01) Tryz.func190 (by decide +kernel) (by kernel_rfl)
def zEO : List (Nat × Hint) := [(3, .join [(0, ⟨[], [(4, 0, .bool)], []⟩)])]
noncomputable def z3l : Ent := mkE tysC 168 [z3U] zEO Tryz.f168 [(.vw, .str), (.vw, .str)] true .bool
theorem z86 : z3l.Ok Tryz.prog := z02 envC (z00 z8s z01) Tryz.func168 (by decide +kernel) (by kernel_rfl)
def zKW : List (Nat × Hint) := [(58, .loop ⟨[1, 2, 11, 12], [(7, 0, tyRt), (13, 0, (.int .i64))], []⟩ [(2, ⟨[], [(7, 0, tyRt)], []⟩)]), (467, .join [(0, ⟨[1, 2, 11, 12, 13], [(7, 0, tyRt)], []⟩)]), (3737, .join [(0, ⟨[1, 2, 7, 9, 11, 12, 13], [(30, 0, .bool)], []⟩)]), (0, .frz [6])]
noncomputable def z41 : Ent := mkE tysC 80 [] zKW Tryz.f80 [(.vw, tyRf), (.vw, .str), (.vw, (.int .i64))] true tyRt
theorem z8Z : z41.Ok Tryz.prog := z02 envC z01 Tryz.func80 (by decide +kernel) (by kernel_rfl)
def zCv : List (Nat × Hint) := [(3, .join [(0, ⟨[], [(3, 0, .bool)], []⟩)])]
noncomputable def z4s : Ent := mkE tysC 169 [] zCv Tryz.f169 [(.vw, tyR), (.vw, (.ptr tyR))] true .bool
theorem zC8 : z4s.Ok Tryz.prog := z02 envC z01 Tryz.func169 (by decide +kernel) (by kernel_rfl)
def z2C : List (Nat × Hint) := [(26, .loop ⟨[0, 1, 7], [(8, 0, (.int .i64))], []⟩ [(1, ⟨[], [(4, 0, (.int .i64))], []⟩), (2, ⟨[], [], []⟩)])]
noncomputable def z0Q : Ent := mkE tysC 167 [z4s] z2C Tryz.f167 [(.vw, tyRf), (.vw, (.fn 169 (.pair (.ptr tyR) .unit)))] true (.int .i64)
theorem z28 : z0Q.Ok Tryz.prog := z02 envC (z00 zC8 z01) Tryz.func167 (by decide +kernel) (by kernel_rfl)
def z1o : List (Nat × Hint) := []
noncomputable def z0I : Ent := mkE tysC 124 [z0Q] z1o Tryz.f124 [(.vw, tyRf), (.vw, (.fn 169 (.pair (.ptr tyR) .unit)))] true .bool
theorem z1k : z0I.Ok Tryz.prog := z02 envC (z00 z28 z01) Tryz.func124 (by decide +kernel) (by kernel_rfl)
def zCw : List (Nat × Hint) := [(7, .join [(0, ⟨[], [(4, 0, .bool)], []⟩)]), (3, .join [(0, ⟨[2, 3], [(5, 0, .bool)], []⟩)])]
noncomputable def z4t : Ent := mkE tysC 170 [z3l] zCw Tryz.f170 [(.vw, tyR), (.vw, (.ptr .str)), (.vw, (.ptr tyR))] true .bool
theorem zC9 : z4t.Ok Tryz.prog := z02 envC (z00 z86 z01) Tryz.func170 (by decide +kernel) (by kernel_rfl)
def z2D : List (Nat × Hint) := [(26, .loop ⟨[0, 1, 7], [(8, 0, (.int .i64))], []⟩ [(1, ⟨[], [(4, 0, (.int .i64))], []⟩), (2, ⟨[], [], []⟩)])]
noncomputable def z0R : Ent := mkE tysC 167 [z4t] z2D Tryz.f167 [(.vw, tyRf), (.vw, (.fn 170 (.pair (.ptr .str) (.pair (.ptr tyR) .unit))))] true (.int .i64)
theorem z29 : z0R.Ok Tryz.prog := z02 envC (z00 zC9 z01) Tryz.func167 (by decide +kernel) (by kernel_rfl)
def z1p : List (Nat × Hint) := []
noncomputable def z0J : Ent := mkE tysC 124 [z0R] z1p Tryz.f124 [(.vw, tyRf), (.vw, (.fn 170 (.pair (.ptr .str) (.pair (.ptr tyR) .unit))))] true .bool
theorem z1l : z0J.Ok Tryz.prog := z02 envC (z00 z29 z01) Tryz.func124 (by decide +kernel) (by kernel_rfl)
def zFq : List (Nat × Hint) := [(27646, .join [(0, ⟨[], [(8, 0, .bool)], []⟩)]), (6910, .join [(0, ⟨[], [(8, 0, .bool)], []⟩)]), (430, .join [(0, ⟨[], [(8, 0, .bool)], []⟩)])]
noncomputable def z5z : Ent := mkE tysC 126 [z3l, z41, z0I, z0J] zFq Tryz.f126 [(.vw, .str), (.vw, tyRf), (.vw, tyR), (.vw, (.int .i64))] true .bool
theorem zEe : z5z.Ok Tryz.prog := z02 envC (z00 z86 (z00 z8Z (z00 z1k (z00 z1l z01)))) Tryz.func126 (by decide +kernel) (by kernel_rfl)
def zCu : List (Nat × Hint) := []
noncomputable def z4r : Ent := mkE tysC 125 [z5z] zCu Tryz.f125 [(.vw, tyR), (.vw, (.ptr .str)), (.vw, (.ptr tyRf)), (.vw, (.ptr (.int .i64)))] true .bool
theorem zC7 : z4r.Ok Tryz.prog := z02 envC (z00 zEe z01) Tryz.func125 (by decide +kernel) (by kernel_rfl)
def z2B : List (Nat × Hint) := [(26, .loop ⟨[0, 1, 7], [(8, 0, (.int .i64))], []⟩ [(1, ⟨[], [(4, 0, (.int .i64))], []⟩), (2, ⟨[], [], []⟩)])]
noncomputable def z0P : Ent := mkE tysC 167 [z4r] z2B Tryz.f167 [(.vw, tyRf), (.vw, (.fn 125 (.pair (.ptr .str) (.pair (.ptr tyRf) (.pair (.ptr (.int .i64)) .unit)))))] true (.int .i64)
theorem z27 : z0P.Ok Tryz.prog := z02 envC (z00 zC7 z01) Tryz.func167 (by decide +kernel) (by kernel_rfl)
def z1n : List (Nat × Hint) := []
noncomputable def z0H : Ent := mkE tysC 124 [z0P] z1n Tryz.f124 [(.vw, tyRf), (.vw, (.fn 125 (.pair (.ptr .str) (.pair (.ptr tyRf) (.pair (.ptr (.int .i64)) .unit)))))] true .bool
theorem z1j : z0H.Ok Tryz.prog := z02 envC (z00 z27 z01) Tryz.func124 (by decide +kernel) (by kernel_rfl)
def zFp : List (Nat × Hint) := [(58, .loop ⟨[2, 3], [(5, 2, (.int .i64))], []⟩ [(1, ⟨[], [(4, 0, (.int .i64))], []⟩), (2, ⟨[], [], []⟩)]), (932, .join [(0, ⟨[2, 3, 5], [(27, 0, .bool)], []⟩)])]
noncomputable def z48 : Ent := mkE tysC 79 [z5U, z0H, z41] zFp Tryz.f79 [(.vw, .str), (.vw, tyRf)] true (.int .i64)
theorem z8u : z48.Ok Tryz.prog := z02 envC (z00 zDV (z00 z1j (z00 z8Z z01))) Tryz.func79 (by decide +kernel) (by kernel_rfl)
def zAe : List (Nat × Hint) := []
noncomputable def z2X : Ent := mkE tysC 81 [z0n] zAe Tryz.f81 [(.vw, (.int .i64))] true .str
theorem z6a : z2X.Ok Tryz.prog := z02 envC (z00 z5A z01) Tryz.func81 (by decide +kernel) (by kernel_rfl)
def zCt : List (Nat × Hint) := [(3, .join [(0, ⟨[], [(2, 0, .bool)], []⟩)])]
noncomputable def z3C : Ent := mkE tysC 40 [z4W, z48, z41, z2X] zCt Tryz.f40 [(.vw, tyZf)] true .bool
theorem z7Z : z3C.Ok Tryz.prog := z02 envC (z00 zAz (z00 z8u (z00 z8Z (z00 z6a z01)))) Tryz.func40 (by decide +kernel) (by kernel_rfl)
def zCy : List (Nat × Hint) := []
noncomputable def z4u : Ent := mkE tysC 43 [z0Y] zCy Tryz.f43 [(.vw, (.int .i64))] true .bool
theorem zCA : z4u.Ok Tryz.prog := z02 envC (z00 z2U z01) Tryz.func43 (by decide +kernel) (by kernel_rfl)
def z9l : List (Nat × Hint) := [(58, .loop ⟨[1, 22, 23], [(24, 0, (.int .i64))], []⟩ [(1, ⟨[], [(2, 0, .bool)], []⟩), (2, ⟨[], [], []⟩)]), (3737, .join [(0, ⟨[1, 22, 23, 24], [(62, 0, .bool)], []⟩)]), (6, .join [(0, ⟨[1], [(20, 0, .bool)], []⟩)])]
noncomputable def z0s : Ent := mkE tysC 14 [z3C, z0Y, z1Y, z4u] z9l Tryz.f14 [(.vw, (.pair tyZf (.pair (.lst false tyD) (.pair (.int .i64) .unit))))] true .bool
theorem z4e : z0s.Ok Tryz.prog := z02 envC (z00 z7Z (z00 z2U (z00 z5r (z00 zCA z01)))) Tryz.func14 (by decide +kernel) (by kernel_rfl)
def z4F : List (Nat × Hint) := []
noncomputable def z0F : Ent := mkE tysC 157 [] z4F Tryz.f157 [(.vw, tyRf)] true tyRt
theorem z17 : z0F.Ok Tryz.prog := z02 envC z01 Tryz.func157 (by decide +kernel) (by kernel_rfl)
def zER : List (Nat × Hint) := []
noncomputable def z5V : Ent := mkE tysC 111 [z0F] zER Tryz.f111 [(.vw, tyZf)] true tyZt
theorem zDW : z5V.Ok Tryz.prog := z02 envC (z00 z17 z01) Tryz.func111 (by decide +kernel) (by kernel_rfl)
def z4m : List (Nat × Hint) := []
noncomputable def z0y : Ent := mkE tysC 112 [] z4m Tryz.f112 [(.vw, (.lst false tyD))] true (.lst true tyD)
theorem z4f : z0y.Ok Tryz.prog := z02 envC z01 Tryz.func112 (by decide +kernel) (by kernel_rfl)
def zAc : List (Nat × Hint) := []
noncomputable def z49 : Ent := mkE tysC 72 [z5V, z0y] zAc Tryz.f72 [(.vw, (.pair tyZf (.pair (.lst false tyD) (.pair (.int .i64) .unit))))] true (.pair tyZt (.pair (.lst true tyD) (.pair (.int .i64) .unit)))
theorem zA1 : z49.Ok Tryz.prog := z02 envC (z00 zDW (z00 z4f z01)) Tryz.func72 (by decide +kernel) (by kernel_rfl)
def z7u : List (Nat × Hint) := []
noncomputable def z2A : Ent := mkE tysC 85 [z1S] z7u Tryz.f85 [(.vw, tyD), (.vw, (.int .i64))] true (.int .i64)
theorem z7h : z2A.Ok Tryz.prog := z02 envC (z00 z52 z01) Tryz.func85 (by decide +kernel) (by kernel_rfl)
def z1G : List (Nat × Hint) := [(31, .join [(0, ⟨[], [(6, 0, (.int .i64)), (7, 0, .bool)], []⟩)]), (60, .loop ⟨[0, 1, 2, 8], [(9, 0, (.int .i64)), (10, 0, (.int .i64))], []⟩ [(2, ⟨[0, 1, 2, 8], [(9, 0, (.int .i64))], []⟩)])]
noncomputable def z0D : Ent := mkE tysC 84 [z2A] z1G Tryz.f84 [(.vw, (.lst false tyD)), (.vw, (.int .i64)), (.vw, (.fn 85 .unit))] false (.pair (.int .i64) (.pair .bool .unit))
theorem z1C : z0D.Ok Tryz.prog := z02 envC (z00 z7h z01) Tryz.func84 (by decide +kernel) (by kernel_rfl)
def z99 : List (Nat × Hint) := []
noncomputable def z1u : Ent := mkE tysC 48 [z0D] z99 Tryz.f48 [(.vw, (.pair tyZf (.pair (.lst false tyD) (.pair (.int .i64) .unit)))), (.vw, (.int .i64))] false (.pair (.int .i64) (.pair .bool .unit))
theorem z5v : z1u.Ok Tryz.prog := z02 envC (z00 z1C z01) Tryz.func48 (by decide +kernel) (by kernel_rfl)
def Tryz.insR73 : Go.Shelf.Ren := ⟨fun | 22 => 73 | 29 => 113 | 30 => 114 | n => n, fun | 0 => 0 | 3 => 3 | 4 => 4 | 9 => 40 | 24 => 34 | n => n, fun n => n⟩
noncomputable def Tryz.insI73 : TypeInfo := (Tryz.prog.info? 40).getD default
noncomputable def Tryz.insZ73 : Value := Tryz.insI73.zero.getD default
theorem Tryz.insL73 : InsL Tryz.prog Tryz.insR73 Tryz.insI73 Tryz.insZ73 := {
 mixed := by kernel_rfl
 f22 := ⟨Tryz.f73.name, by kernel_rfl, Tryz.func73.trans (congrArg some (by kernel_rfl))⟩
 f29 := fun args w => run_callFunc_extern Tryz.func113 (by kernel_rfl) (by kernel_rfl) (by kernel_rfl) (by kernel_rfl) args w
 t0 := Tryz.underlying0
 a0 := Tryz.isAgg0
 z0 := Tryz.sizeOf0
 v0 := Tryz.zeroValue0
 t3 := Tryz.underlying3
 a3 := Tryz.isAgg3
 z3 := Tryz.sizeOf3
 v3 := Tryz.zeroValue3
 t4 := Tryz.underlying4
 a4 := Tryz.isAgg4
 z4 := Tryz.sizeOf4
 v4 := Tryz.zeroValue4
 z9 := Tryz.sizeOf40
 t24 := Tryz.underlying34
 a24 := Tryz.isAgg34
 z24 := Tryz.sizeOf34
 v24 := Tryz.zeroValue34
 i9 := by kernel_rfl
 iz := by kernel_rfl
 is := of_decide_eq_true (by kernel_rfl)
 ic := by kernel_rfl }
noncomputable abbrev z1R : Ent := insE 73 tyD 32
theorem z4T : z1R.Ok Tryz.prog := zKX Tryz.insL73 (by kernel_rfl) Tryz.func73 (by decide +kernel) rfl (by kernel_rfl) (by kernel_rfl) rfl rfl rfl
def zFs : List (Nat × Hint) := [(7, .join [(0, ⟨[], [(4, 0, .bool)], []⟩)])]
noncomputable def z61 : Ent := mkE tysC 116 [z41] zFs Tryz.f116 [(.vw, tyZf), (.vw, (.pair (.int .i64) (.pair tyR .unit)))] true .bool
theorem zEg : z61.Ok Tryz.prog := z02 envC (z00 z8Z z01) Tryz.func116 (by decide +kernel) (by kernel_rfl)
def zEL : List (Nat × Hint) := []
noncomputable def z5R : Ent := mkE tysC 115 [z61] zEL Tryz.f115 [(.vw, (.pair (.int .i64) (.pair tyR .unit))), (.vw, (.ptr tyZf))] true .bool
theorem zDR : z5R.Ok Tryz.prog := z02 envC (z00 zEg z01) Tryz.func115 (by decide +kernel) (by kernel_rfl)
def z2H : List (Nat × Hint) := [(26, .loop ⟨[0, 1, 7], [(8, 0, (.int .i64))], []⟩ [(1, ⟨[], [(4, 0, (.int .i64))], []⟩), (2, ⟨[], [], []⟩)])]
noncomputable def z0S : Ent := mkE tysC 130 [z5R] z2H Tryz.f130 [(.vw, (.lst false (.pair (.int .i64) (.pair tyR .unit)))), (.vw, (.fn 115 (.pair (.ptr tyZf) .unit)))] true (.int .i64)
theorem z2F : z0S.Ok Tryz.prog := z02 envC (z00 zDR z01) Tryz.func130 (by decide +kernel) (by kernel_rfl)
def z1z : List (Nat × Hint) := []
noncomputable def z0K : Ent := mkE tysC 90 [z0S] z1z Tryz.f90 [(.vw, (.lst false (.pair (.int .i64) (.pair tyR .unit)))), (.vw, (.fn 115 (.pair (.ptr tyZf) .unit)))] true .bool
theorem z1r : z0K.Ok Tryz.prog := z02 envC (z00 z2F z01) Tryz.func90 (by decide +kernel) (by kernel_rfl)
def zBr : List (Nat × Hint) := [(3, .join [(0, ⟨[], [(3, 0, .bool)], []⟩)])]
noncomputable def z2k : Ent := mkE tysC 160 [] zBr Tryz.f160 [(.vw, tyR), (.vw, (.ptr tyR))] true .bool
theorem z77 : z2k.Ok Tryz.prog := z02 envC z01 Tryz.func160 (by decide +kernel) (by kernel_rfl)
def z26 : List (Nat × Hint) := [(26, .loop ⟨[0, 1, 7], [(8, 0, (.int .i64))], []⟩ [(1, ⟨[], [(4, 0, (.int .i64))], []⟩), (2, ⟨[], [], []⟩)])]
noncomputable def z0O : Ent := mkE tysC 167 [z2k] z26 Tryz.f167 [(.vw, tyRf), (.vw, (.fn 160 (.pair (.ptr tyR) .unit)))] true (.int .i64)
theorem z23 : z0O.Ok Tryz.prog := z02 envC (z00 z77 z01) Tryz.func167 (by decide +kernel) (by kernel_rfl)
def z22 : List (Nat × Hint) := [(122, .loop ⟨[1], [(0, 0, tyRt), (5, 0, (.int .i64)), (6, 0, (.int .i64))], []⟩ [(2, ⟨[], [(0, 0, tyRt), (5, 0, (.int .i64))], []⟩)]), (489, .join [(0, ⟨[1, 6], [(0, 0, tyRt), (5, 0, (.int .i64))], []⟩)]), (0, .frz [4])]
noncomputable def z0L : Ent := mkE tysC 159 [z0O, z2k] z22 Tryz.f159 [(.own, tyRt), (.vw, (.fn 160 (.pair (.ptr tyR) .unit)))] true tyRt
theorem z1s : z0L.Ok Tryz.prog := z02 envC (z00 z23 (z00 z77 z01)) Tryz.func159 (by decide +kernel) (by kernel_rfl)
def z0w : List (Nat × Hint) := [(31, .join [(0, ⟨[], [(6, 0, (.int .i64)), (7, 0, .bool)], []⟩)]), (60, .loop ⟨[0, 2, 4, 8], [(9, 0, (.int .i64)), (10, 0, (.int .i64))], []⟩ [(2, ⟨[0, 2, 4, 8], [(9, 0, (.int .i64))], []⟩)])]
noncomputable def z06 : Ent := mkE tysC 184 [z15] z0w Tryz.f184 [(.vw, tyRf), (.vw, tyR), (.vw, (.fn 185 .unit))] false (.pair (.int .i64) (.pair .bool .unit))
theorem z0v : z06.Ok Tryz.prog := z02 envC (z00 z5H z01) Tryz.func184 (by decide +kernel) (by kernel_rfl)
def Tryz.insR186 : Go.Shelf.Ren := ⟨fun | 22 => 186 | 29 => 206 | 30 => 207 | n => n, fun | 0 => 0 | 3 => 3 | 4 => 4 | 9 => 57 | 24 => 31 | n => n, fun n => n⟩
noncomputable def Tryz.insI186 : TypeInfo := (Tryz.prog.info? 57).getD default
noncomputable def Tryz.insZ186 : Value := Tryz.insI186.zero.getD default
theorem Tryz.insL186 : InsL Tryz.prog Tryz.insR186 Tryz.insI186 Tryz.insZ186 := {
 mixed := by kernel_rfl
 f22 := ⟨Tryz.f186.name, by kernel_rfl, Tryz.func186.trans (congrArg some (by kernel_rfl))⟩
 f29 := fun args w => run_callFunc_extern Tryz.func206 (by kernel_rfl) (by kernel_rfl) (by kernel_rfl) (by kernel_rfl) args w
 t0 := Tryz.underlying0
 a0 := Tryz.isAgg0
 z0 := Tryz.sizeOf0
 v0 := Tryz.zeroValue0
 t3 := Tryz.underlying3
 a3 := Tryz.isAgg3
 z3 := Tryz.sizeOf3
 v3 := Tryz.zeroValue3
 t4 := Tryz.underlying4
 a4 := Tryz.isAgg4
 z4 := Tryz.sizeOf4
 v4 := Tryz.zeroValue4
 z9 := Tryz.sizeOf57
 t24 := Tryz.underlying31
 a24 := Tryz.isAgg31
 z24 := Tryz.sizeOf31
 v24 := Tryz.zeroValue31
 i9 := by kernel_rfl
 iz := by kernel_rfl
 is := of_decide_eq_true (by kernel_rfl)
 ic := by kernel_rfl }
noncomputable abbrev z16 : Ent := insE 186 tyR 48
theorem z3y : z16.Ok Tryz.prog := zKX Tryz.insL186 (by kernel_rfl) Tryz.func186 (by decide +kernel) rfl (by kernel_rfl) (by kernel_rfl) rfl rfl rfl
def zJf : List (Nat × Hint) := [(0, .frz [18, 4])]
noncomputable def z8T : Ent := mkE tysC 161 [z06, z16] zJf Tryz.f161 [(.own, tyRt), (.vw, tyR)] true tyRt
theorem zIQ : z8T.Ok Tryz.prog := z02 envC (z00 z0v (z00 z3y z01)) Tryz.func161 (by decide +kernel) (by kernel_rfl)
def zEM : List (Nat × Hint) := [(58, .loop ⟨[11, 12], [(5, 0, tyRt), (13, 0, (.int .i64))], []⟩ [(2, ⟨[], [(5, 0, tyRt)], []⟩)]), (467, .join [(0, ⟨[11, 12, 13], [(5, 0, tyRt)], []⟩)]), (7474, .join [(0, ⟨[5, 7, 11, 12, 13], [(24, 0, .bool)], []⟩)]), (0, .frz [4])]
noncomputable def z5S : Ent := mkE tysC 117 [z0F, z0L, z8T] zEM Tryz.f117 [(.vw, tyRf), (.vw, (.lst false (.pair (.int .i64) (.pair tyR .unit))))] true tyRt
theorem zDS : z5S.Ok Tryz.prog := z02 envC (z00 z17 (z00 z1s (z00 zIQ z01))) Tryz.func117 (by decide +kernel) (by kernel_rfl)
def zEN : List (Nat × Hint) := [(58, .loop ⟨[1, 10], [(5, 0, tyRt), (11, 0, (.int .i64))], []⟩ [(2, ⟨[], [(5, 0, tyRt)], []⟩)]), (467, .join [(0, ⟨[1, 10, 11], [(5, 0, tyRt)], []⟩)]), (0, .frz [4])]
noncomputable def z5T : Ent := mkE tysC 118 [z0F, z2X] zEN Tryz.f118 [(.vw, tyRf), (.vw, (.int .i64))] true tyRt
theorem zDT : z5T.Ok Tryz.prog := z02 envC (z00 z17 (z00 z6a z01)) Tryz.func118 (by decide +kernel) (by kernel_rfl)
def zH0 : List (Nat × Hint) := [(124, .join [(0, ⟨[4, 6], [(25, 0, .bool)], []⟩)])]
noncomputable def z6R : Ent := mkE tysC 74 [z1w, z0K, z5S, z48, z5T] zH0 Tryz.f74 [(.vw, tyZf), (.vw, (.lst false (.pair (.int .i64) (.pair tyR .unit))))] false (.pair tyZt (.pair (.int .i64) .unit))
theorem zG9 : z6R.Ok Tryz.prog := z02 envC (z00 z6Y (z00 z1r (z00 zDS (z00 z8u (z00 zDT z01))))) Tryz.func74 (by decide +kernel) (by kernel_rfl)
def z9A : List (Nat × Hint) := [(127, .join [(0, ⟨[3, 4, 5, 8, 11], [(7, 2, (.pair tyZt (.pair (.lst true tyD) (.pair (.int .i64) .unit))))], []⟩)]), (31, .join [(0, ⟨[3, 4, 5, 8], [(7, 2, (.pair tyZt (.pair (.lst true tyD) (.pair (.int .i64) .unit))))], []⟩), (1, ⟨[], [(4, 2, (.pair tyZt (.pair (.lst true tyD) (.pair (.int .i64) .unit)))), (5, 2, tyD), (6, 0, .bool)], []⟩)]), (499, .join [(0, ⟨[3, 4, 5, 7, 8, 9], [(49, 0, .bool)], []⟩)]), (3995, .join [(0, ⟨[2, 3, 4, 5, 7, 8, 9], [(49, 0, .bool)], []⟩)]), (998, .join [(0, ⟨[2, 3, 4, 5, 7, 8, 9], [(49, 0, .bool)], []⟩)]), (124, .join [(0, ⟨[2, 3, 4, 5, 7, 8, 9], [(30, 0, .bool)], []⟩)]), (0, .frz [82])]
noncomputable def z1v : Ent := mkE tysC 36 [z1Y, z49, z1u, z1R, z6R] z9A Tryz.f36 [(.vw, (.pair tyZf (.pair (.lst false tyD) (.pair (.int .i64) .unit)))), (.vw, (.pair (.int .i64) (.pair (.int .i64) (.pair (.lst false (.pair (.int .i64) (.pair tyR .unit))) .unit))))] false (.pair (.pair tyZt (.pair (.lst true tyD) (.pair (.int .i64) .unit))) (.pair tyD (.pair .bool .unit)))
theorem z5w : z1v.Ok Tryz.prog := z02 envC (z00 z5r (z00 zA1 (z00 z5v (z00 z4T (z00 zG9 z01))))) Tryz.func36 (by decide +kernel) (by kernel_rfl)
def zBo : List (Nat × Hint) := []
noncomputable def z3b : Ent := mkE tysC 11 [z0s, z1v] zBo Tryz.f11 [(.vw, (.pair tyZf (.pair (.lst false tyD) (.pair (.int .i64) .unit)))), (.vw, (.pair (.int .i64) (.pair (.int .i64) (.pair (.lst false (.pair (.int .i64) (.pair tyR .unit))) .unit))))] false (.pair (.pair tyZt (.pair (.lst true tyD) (.pair (.int .i64) .unit))) (.pair tyD (.pair .bool .unit)))
theorem zAv : z3b.Ok Tryz.prog := z02 envC (z00 z4e (z00 z5w z01)) Tryz.func11 (by decide +kernel) (by kernel_rfl)
def zDD : List (Nat × Hint) := []
noncomputable def z4w : Ent := mkE tysC 46 [z0X] zDD Tryz.f46 [(.vw, (.int .i64))] true .bool
theorem zCJ : z4w.Ok Tryz.prog := z02 envC (z00 z2u z01) Tryz.func46 (by decide +kernel) (by kernel_rfl)
def z9q : List (Nat × Hint) := [(7, .join [(0, ⟨[], [(2, 0, .bool)], []⟩)]), (26, .loop ⟨[1, 6, 7], [(8, 0, (.int .i64))], []⟩ [(1, ⟨[2], [], []⟩), (2, ⟨[1], [], []⟩)]), (1689, .join [(0, ⟨[1, 6, 7, 8], [(46, 0, .bool)], []⟩)])]
noncomputable def z2J : Ent := mkE tysC 15 [z2P, z0X, z4w, z3H] z9q Tryz.f15 [(.vw, (.pair tyZf (.pair (.lst false tyD) (.pair (.int .i64) .unit))))] true .bool
theorem z6F : z2J.Ok Tryz.prog := z02 envC (z00 z6n (z00 z2u (z00 zCJ (z00 z7c z01)))) Tryz.func15 (by decide +kernel) (by kernel_rfl)
def zC1 : List (Nat × Hint) := []
noncomputable def z4Y : Ent := mkE tysC 12 [z2J, z3Q, z3n] zC1 Tryz.f12 [(.vw, (.pair tyZf (.pair (.lst false tyD) (.pair (.int .i64) .unit)))), (.vw, (.pair (.int .i64) (.pair (.int .i64) (.pair (.lst false (.pair (.int .i64) (.pair tyR .unit))) .unit))))] false (.pair (.pair tyZt (.pair (.lst true tyD) (.pair (.int .i64) .unit))) (.pair tyD (.pair .bool .unit)))
theorem zB6 : z4Y.Ok Tryz.prog := z02 envC (z00 z6F (z00 z8v (z00 z8B z01))) Tryz.func12 (by decide +kernel) (by kernel_rfl)
def z9p : List (Nat × Hint) := [(58, .loop ⟨[0, 1, 12], [(13, 0, (.int .i64))], []⟩ [(1, ⟨[4], [], []⟩), (2, ⟨[], [], []⟩)])]
noncomputable def z3u : Ent := mkE tysC 77 [] z9p Tryz.f77 [(.vw, tyRf), (.vw, tyRf)] true .bool
theorem z9Q : z3u.Ok Tryz.prog := z02 envC z01 Tryz.func77 (by decide +kernel) (by kernel_rfl)
def zBx : List (Nat × Hint) := [(3, .join [(0, ⟨[], [(4, 0, .bool)], []⟩)])]
noncomputable def z4X : Ent := mkE tysC 39 [z3u] zBx Tryz.f39 [(.vw, tyZf), (.vw, tyZf)] true .bool
theorem zB3 : z4X.Ok Tryz.prog := z02 envC (z00 z9Q z01) Tryz.func39 (by decide +kernel) (by kernel_rfl)
def zD5 : List (Nat × Hint) := [(58, .loop ⟨[0, 1, 12], [(13, 0, (.int .i64))], []⟩ [(1, ⟨[4], [], []⟩), (2, ⟨[], [], []⟩)])]
noncomputable def z3G : Ent := mkE tysC 20 [] zD5 Tryz.f20 [(.vw, (.lst false tyD)), (.vw, (.lst false tyD))] true .bool
theorem z7b : z3G.Ok Tryz.prog := z02 envC z01 Tryz.func20 (by decide +kernel) (by kernel_rfl)
def z9D : List (Nat × Hint) := [(3, .join [(0, ⟨[], [(4, 0, .bool)], []⟩)])]
noncomputable def z1Q : Ent := mkE tysC 13 [z4X, z3G] z9D Tryz.f13 [(.vw, (.pair tyZf (.pair (.lst false tyD) (.pair (.int .i64) .unit)))), (.vw, (.pair tyZf (.pair (.lst false tyD) (.pair (.int .i64) .unit))))] true .bool
theorem z8o : z1Q.Ok Tryz.prog := z02 envC (z00 zB3 (z00 z7b z01)) Tryz.func13 (by decide +kernel) (by kernel_rfl)
def zCr : List (Nat × Hint) := [(30, .join [(0, ⟨[3, 6, 8], [(31, 0, .bool)], []⟩)])]
noncomputable def z40 : Ent := mkE tysC 16 [z0s, z1u] zCr Tryz.f16 [(.vw, (.pair tyZf (.pair (.lst false tyD) (.pair (.int .i64) .unit)))), (.vw, (.int .i64)), (.vw, (.int .i64))] false (.pair tyD (.pair .bool .unit))
theorem zC6 : z40.Ok Tryz.prog := z02 envC (z00 z4e (z00 z5v z01)) Tryz.func16 (by decide +kernel) (by kernel_rfl)
def z8i : List (Nat × Hint) := [(15, .join [(0, ⟨[], [(5, 0, .str), (8, 2, (.pair (.lst false (.int .u8)) (.pair (.int .i64) (.pair (.int .u64) .unit))))], [4]⟩)])]
noncomputable def z36 : Ent := mkE tysZ 17 [z0e, z2Y, z1H] z8i Tryz.f17 [(.vw, (.lst false (.int .u8)))] false (.pair .str (.pair (.lst true (.pair (.int .i64) (.pair (.int .i64) (.pair (.lst false (.pair (.int .i64) (.pair tyR .unit))) .unit)))) .unit))
theorem z89 : z36.Ok Tryz.prog := z02 envZ (z00 z4J (z00 z6b (z00 z57 z01))) Tryz.func17 (by decide +kernel) (by kernel_rfl)
def zEK : List (Nat × Hint) := []
noncomputable def z5Q : Ent := mkE tysC 88 [z3C] zEK Tryz.f88 [(.vw, .str)] false (.pair tyZt (.pair .bool .unit))
theorem zDQ : z5Q.Ok Tryz.prog := z02 envC (z00 z7Z z01) Tryz.func88 (by decide +kernel) (by kernel_rfl)
def zAY : List (Nat × Hint) := []
noncomputable def z47 : Ent := mkE tysC 52 [z5Q] zAY Tryz.f52 [(.vw, .str)] false (.pair (.pair tyZt (.pair (.lst true tyD) (.pair (.int .i64) .unit))) (.pair .bool .unit))
theorem z9y : z47.Ok Tryz.prog := z02 envC (z00 zDQ z01) Tryz.func52 (by decide +kernel) (by kernel_rfl)
def zBm : List (Nat × Hint) := [(250, .loop ⟨[4, 29, 30], [(7, 2, (.pair tyZt (.pair (.lst true tyD) (.pair (.int .i64) .unit)))), (9, 0, (.lst true tyD)), (31, 0, (.int .i64))], []⟩ [(2, ⟨[4], [(7, 2, (.pair tyZt (.pair (.lst true tyD) (.pair (.int .i64) .unit)))), (9, 0, (.lst true tyD))], []⟩)]), (32051, .join [(0, ⟨[4, 9, 13, 29, 30, 31], [(7, 2, (.pair tyZt (.pair (.lst true tyD) (.pair (.int .i64) .unit))))], []⟩)]), (14, .join [(0, ⟨[1, 4, 7], [(26, 0, .bool)], []⟩)]), (0, .frz [5])]
noncomputable def z4U : Ent := mkE tysC 18 [z47, z1v] zBm Tryz.f18 [(.vw, .str), (.vw, (.lst false (.pair (.int .i64) (.pair (.int .i64) (.pair (.lst false (.pair (.int .i64) (.pair tyR .unit))) .unit)))))] false (.pair (.pair tyZt (.pair (.lst true tyD) (.pair (.int .i64) .unit))) (.pair (.lst true tyD) (.pair .bool .unit)))
theorem zAu : z4U.Ok Tryz.prog := z02 envC (z00 z9y (z00 z5w z01)) Tryz.func18 (by decide +kernel) (by kernel_rfl)
def z8h : List (Nat × Hint) := []
noncomputable def z35 : Ent := mkE tysC 21 [z0l] z8h Tryz.f21 [(.vw, (.lst false (.int .u8)))] true (.pair (.int .i64) (.pair (.int .i64) (.pair (.lst true (.pair (.int .i64) (.pair tyR .unit))) .unit)))
theorem z88 : z35.Ok Tryz.prog := z02 envC (z00 z2z z01) Tryz.func21 (by decide +kernel) (by kernel_rfl)
def zFu : List (Nat × Hint) := [(4194298, .loop ⟨[28, 33, 261], [(262, 0, (.int .i64))], []⟩ [(1, ⟨[], [(4, 0, .bool)], []⟩), (2, ⟨[], [], []⟩)]), (524286, .join [(0, ⟨[28, 33], [(258, 0, .bool)], []⟩)]), (65534, .join [(0, ⟨[28, 29, 30], [(224, 0, .bool)], []⟩)]), (4094, .join [(0, ⟨[1], [(204, 0, .bool)], []⟩)]), (127, .join [(0, ⟨[1], [], []⟩), (1, ⟨[], [(4, 0, .bool)], []⟩)]), (16303, .join [(0, ⟨[1], [(170, 0, .bool)], []⟩)]), (8150, .join [(0, ⟨[1, 5, 6, 7, 8], [(140, 0, .bool)], []⟩)]), (126, .join [(0, ⟨[1, 5, 6, 7, 8, 9], [(81, 0, .bool)], []⟩)])]
noncomputable def z9d : Ent := mkE tysC 4 [z38, z3b, z4Y, z1Q, z0s, z2J, z40, z36, z4U, z2m, z3G, z35, z2L, z2M, z1g] zFu Tryz.f4 [(.vw, (.lst false (.int .u8))), (.vw, (.lst false (.int .u8)))] true .bool
theorem ok_laws_FnOnce : z9d.Ok Tryz.prog := z02 envC (z00 z8A (z00 zAv (z00 zB6 (z00 z8o (z00 z4e (z00 z6F (z00 zC6 (z00 z89 (z00 zAu (z00 z7A (z00 z7b (z00 z88 (z00 z72 (z00 z79 (z00 z74 z01))))))))))))))) Tryz.func4 (by decide +kernel) (by kernel_rfl)
end Go.Proofs.YtilejnnnkfjmmaaGreatDoor
