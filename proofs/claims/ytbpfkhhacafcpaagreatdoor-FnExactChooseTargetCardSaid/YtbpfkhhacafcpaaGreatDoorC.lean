/- The functions that the law reaches, each as a program of expressions. -/
import Derived.Test.YtbpfkhhacafcpaaGreatDoorLb1
import Derived.Test.YtbpfkhhacafcpaaGreatDoorProg
import Derived.KernelRfl
import Derived.Test.YtbpfkhhacafcpaaGreatDoorLays
set_option linter.unusedSectionVars false
set_option linter.unusedVariables false
set_option linter.unusedSimpArgs false
namespace Go.Proofs.YtbpfkhhacafcpaaGreatDoor
open Go Go.Own
set_option maxRecDepth 100000
instance glbI : Glb := Glb.at [(0, isInt .i64), (1, isErr), (2, isErr), (5, isArr (Lib.pow10Tab.map fun z => Value.int .u64 z).toArray)]
theorem glbMaxLen : ∀ h V, Glb.ok h V → ∃ m arr ty fz, h[Tryz.l146_ren.g 1]? = some (.cells arr ty fz) ∧ arr[0]? = some (.int .i64 m) :=
  fun _ _ h => isInt_get (h (0, isInt .i64) (by simp)).2
theorem glbSyn : ∀ h V, Glb.ok h V → ∃ ev arr ty fz, h[Tryz.l172_ren.g 15]? = some (.cells arr ty fz) ∧ arr[0]? = some ev ∧ (ev = .nilIface ∨ ∃ te pe, ev = .iface te pe) :=
  fun _ _ h => isErr_get (h (1, isErr) (by simp)).2
theorem glbRng : ∀ h V, Glb.ok h V → ∃ ev arr ty fz, h[Tryz.l172_ren.g 16]? = some (.cells arr ty fz) ∧ arr[0]? = some ev ∧ (ev = .nilIface ∨ ∃ te pe, ev = .iface te pe) :=
  fun _ _ h => isErr_get (h (2, isErr) (by simp)).2
theorem glbPow : ∀ h V, Glb.ok h V → ∃ ty fz, h[5]? = some (.cells (Lib.pow10Tab.map fun z => Value.int .u64 z).toArray ty fz) :=
  fun _ _ h => isArr_get (h (5, isArr (Lib.pow10Tab.map fun z => Value.int .u64 z).toArray) (by simp)).2
abbrev tyR : T := .pair .str (.pair (.int .i64) (.pair (.int .i64) (.pair .str .unit)))
abbrev tyD : T := .pair (.int .i64) (.pair (.int .i64) (.pair (.int .i64) (.pair (.int .i64) .unit)))
abbrev tyRf : T := .lst false tyR
abbrev tyRt : T := .lst true tyR
abbrev tyZf : T := .pair .str (.pair (.int .i64) (.pair tyRf .unit))
abbrev tyZt : T := .pair .str (.pair (.int .i64) (.pair tyRt .unit))
def tysC : List (TypeId × T × Nat) := [(3, (.int .i64), 0), (4, .bool, 0), (5, (.int .u8), 0), (9, .str, 0), (22, (.lst true (.pair .str (.pair .str (.pair (.int .i64) (.pair (.int .i64) .unit))))), 48), (24, (.pair .str (.pair (.lst true (.pair .str (.pair .str (.pair (.int .i64) (.pair (.int .i64) .unit))))) .unit)), 0), (26, (.lst true (.int .i64)), 8), (29, (.lst true (.pair .str (.pair .str (.pair (.int .i64) (.pair (.int .i64) .unit))))), 48), (31, (.pair .str (.pair (.lst true (.pair .str (.pair .str (.pair (.int .i64) (.pair (.int .i64) .unit))))) .unit)), 0), (38, (.lst true (.pair .str (.pair .bool (.pair (.int .i64) .unit)))), 32), (40, (.pair (.int .i64) (.pair (.int .i64) (.pair (.lst true (.pair .str (.pair .bool (.pair (.int .i64) .unit)))) .unit))), 0), (44, (.lst true (.pair .str (.pair .bool (.pair (.int .i64) .unit)))), 32), (46, (.pair (.int .i64) (.pair (.int .i64) (.pair (.lst true (.pair .str (.pair .bool (.pair (.int .i64) .unit)))) .unit))), 0), (57, tyR, 0), (75, (.pair .str (.pair .str (.pair (.int .i64) (.pair (.int .i64) .unit)))), 0), (78, (.lst true (.pair (.int .i64) (.pair (.int .i64) .unit))), 16), (85, (.pair .str (.pair .str (.pair (.int .i64) (.pair (.int .i64) .unit)))), 0), (100, (.pair .str (.pair .bool (.pair (.int .i64) .unit))), 0), (101, (.lst true .str), 16), (102, (.pair .str (.pair .bool (.pair (.int .i64) .unit))), 0), (113, (.lst true .bool), 1), (115, (.pair (.int .i64) (.pair (.int .i64) .unit)), 0), (122, (.lst true (.int .u8)), 1), (136, (.int .u64), 0), (145, .err, 0)]
theorem envC : ∀ sig n fx fr, EnvOk Tryz.prog ⟨tyOf tysC, ebOf tysC, sig, n, fx, fr⟩ := by
  refine EnvOk.ofL (fun sig n fx fr t ht => ?_) (by kernel_rfl)
  simp only [tysC, List.map_cons, List.map_nil, List.mem_cons] at ht
  rcases ht with rfl | ht
  · exact ⟨Tryz.underlying3, rfl, by kernel_rfl, by kernel_rfl⟩
  rcases ht with rfl | ht
  · exact ⟨Tryz.underlying4, rfl, by kernel_rfl, by kernel_rfl⟩
  rcases ht with rfl | ht
  · exact ⟨Tryz.underlying5, rfl, by kernel_rfl, by kernel_rfl⟩
  rcases ht with rfl | ht
  · exact ⟨Tryz.underlying9, rfl, by kernel_rfl, by kernel_rfl⟩
  rcases ht with rfl | ht
  · exact ⟨⟨rfl, _, Tryz.underlying22, rfl, rfl, by kernel_rfl⟩, rfl, by kernel_rfl, by kernel_rfl⟩
  rcases ht with rfl | ht
  · exact ⟨⟨_, Tryz.underlying24, rfl, rfl, rfl, rfl, rfl, rfl, trivial⟩, rfl, by kernel_rfl, by kernel_rfl⟩
  rcases ht with rfl | ht
  · exact ⟨⟨rfl, _, Tryz.underlying26, rfl, rfl, by kernel_rfl⟩, rfl, by kernel_rfl, by kernel_rfl⟩
  rcases ht with rfl | ht
  · exact ⟨⟨rfl, _, Tryz.underlying29, rfl, rfl, by kernel_rfl⟩, rfl, by kernel_rfl, by kernel_rfl⟩
  rcases ht with rfl | ht
  · exact ⟨⟨_, Tryz.underlying31, rfl, rfl, rfl, rfl, rfl, rfl, trivial⟩, rfl, by kernel_rfl, by kernel_rfl⟩
  rcases ht with rfl | ht
  · exact ⟨⟨rfl, _, Tryz.underlying38, rfl, rfl, by kernel_rfl⟩, rfl, by kernel_rfl, by kernel_rfl⟩
  rcases ht with rfl | ht
  · exact ⟨⟨_, Tryz.underlying40, rfl, rfl, rfl, rfl, rfl, rfl, rfl, rfl, rfl, trivial⟩, rfl, by kernel_rfl, by kernel_rfl⟩
  rcases ht with rfl | ht
  · exact ⟨⟨rfl, _, Tryz.underlying44, rfl, rfl, by kernel_rfl⟩, rfl, by kernel_rfl, by kernel_rfl⟩
  rcases ht with rfl | ht
  · exact ⟨⟨_, Tryz.underlying46, rfl, rfl, rfl, rfl, rfl, rfl, rfl, rfl, rfl, trivial⟩, rfl, by kernel_rfl, by kernel_rfl⟩
  rcases ht with rfl | ht
  · exact ⟨⟨_, Tryz.underlying57, rfl, rfl, rfl, rfl, rfl, rfl, rfl, rfl, rfl, rfl, rfl, rfl, trivial⟩, rfl, by kernel_rfl, by kernel_rfl⟩
  rcases ht with rfl | ht
  · exact ⟨⟨_, Tryz.underlying75, rfl, rfl, rfl, rfl, rfl, rfl, rfl, rfl, rfl, rfl, rfl, rfl, trivial⟩, rfl, by kernel_rfl, by kernel_rfl⟩
  rcases ht with rfl | ht
  · exact ⟨⟨rfl, _, Tryz.underlying78, rfl, rfl, by kernel_rfl⟩, rfl, by kernel_rfl, by kernel_rfl⟩
  rcases ht with rfl | ht
  · exact ⟨⟨_, Tryz.underlying85, rfl, rfl, rfl, rfl, rfl, rfl, rfl, rfl, rfl, rfl, rfl, rfl, trivial⟩, rfl, by kernel_rfl, by kernel_rfl⟩
  rcases ht with rfl | ht
  · exact ⟨⟨_, Tryz.underlying100, rfl, rfl, rfl, rfl, rfl, rfl, rfl, rfl, rfl, trivial⟩, rfl, by kernel_rfl, by kernel_rfl⟩
  rcases ht with rfl | ht
  · exact ⟨⟨rfl, _, Tryz.underlying101, rfl, rfl, by kernel_rfl⟩, rfl, by kernel_rfl, by kernel_rfl⟩
  rcases ht with rfl | ht
  · exact ⟨⟨_, Tryz.underlying102, rfl, rfl, rfl, rfl, rfl, rfl, rfl, rfl, rfl, trivial⟩, rfl, by kernel_rfl, by kernel_rfl⟩
  rcases ht with rfl | ht
  · exact ⟨⟨rfl, _, Tryz.underlying113, rfl, rfl, by kernel_rfl⟩, rfl, by kernel_rfl, by kernel_rfl⟩
  rcases ht with rfl | ht
  · exact ⟨⟨_, Tryz.underlying115, rfl, rfl, rfl, rfl, rfl, rfl, trivial⟩, rfl, by kernel_rfl, by kernel_rfl⟩
  rcases ht with rfl | ht
  · exact ⟨⟨rfl, _, Tryz.underlying122, rfl, rfl, by kernel_rfl⟩, rfl, by kernel_rfl, by kernel_rfl⟩
  rcases ht with rfl | ht
  · exact ⟨Tryz.underlying136, rfl, by kernel_rfl, by kernel_rfl⟩
  rcases ht with rfl | ht
  · exact ⟨⟨_, Tryz.underlying145⟩, rfl, by kernel_rfl, by kernel_rfl⟩
  cases ht
def h_laws_szTarget : List (Nat × Hint) := []
noncomputable def e_laws_szTarget : Ent := mkE tysC 59 [] h_laws_szTarget Tryz.f59 [(.vw, (.pair .str (.pair .str (.pair (.int .i64) (.pair (.int .i64) .unit))))), (.vw, (.int .i64))] true (.int .i64)
theorem ok_laws_szTarget : e_laws_szTarget.Ok Tryz.prog := mkE_ok envC ok_nil Tryz.func59 (by decide +kernel) (by kernel_rfl)
def h_laws_szTargetS : List (Nat × Hint) := [(122, .loop ⟨[0], [(1, 0, (.int .i64)), (5, 0, (.int .i64))]⟩ [(1, ⟨[], [(4, 0, (.int .i64))]⟩), (2, ⟨[], [(1, 0, (.int .i64))]⟩)])]
noncomputable def e_laws_szTargetS : Ent := mkE tysC 33 [e_laws_szTarget] h_laws_szTargetS Tryz.f33 [(.vw, (.lst false (.pair .str (.pair .str (.pair (.int .i64) (.pair (.int .i64) .unit)))))), (.vw, (.int .i64))] true (.int .i64)
theorem ok_laws_szTargetS : e_laws_szTargetS.Ok Tryz.prog := mkE_ok envC (ok_cons ok_laws_szTarget ok_nil) Tryz.func33 (by decide +kernel) (by kernel_rfl)
def h_laws_szPolicy : List (Nat × Hint) := []
noncomputable def e_laws_szPolicy : Ent := mkE tysC 9 [e_laws_szTargetS] h_laws_szPolicy Tryz.f9 [(.vw, (.pair .str (.pair (.lst false (.pair .str (.pair .str (.pair (.int .i64) (.pair (.int .i64) .unit))))) .unit))), (.vw, (.int .i64))] true (.int .i64)
theorem ok_laws_szPolicy : e_laws_szPolicy.Ok Tryz.prog := mkE_ok envC (ok_cons ok_laws_szTargetS ok_nil) Tryz.func9 (by decide +kernel) (by kernel_rfl)
def h_laws_toTarget : List (Nat × Hint) := []
noncomputable def e_laws_toTarget : Ent := mkE tysC 64 [] h_laws_toTarget Tryz.f64 [(.vw, (.pair .str (.pair .str (.pair (.int .i64) (.pair (.int .i64) .unit)))))] true (.pair .str (.pair .str (.pair (.int .i64) (.pair (.int .i64) .unit))))
theorem ok_laws_toTarget : e_laws_toTarget.Ok Tryz.prog := mkE_ok envC ok_nil Tryz.func64 (by decide +kernel) (by kernel_rfl)
def h_laws_toTargetS : List (Nat × Hint) := [(58, .loop ⟨[0], [(3, 0, (.lst true (.pair .str (.pair .str (.pair (.int .i64) (.pair (.int .i64) .unit)))))), (4, 0, (.int .i64))]⟩ [(2, ⟨[], [(3, 0, (.lst true (.pair .str (.pair .str (.pair (.int .i64) (.pair (.int .i64) .unit))))))]⟩)]), (0, .frz [2])]
noncomputable def e_laws_toTargetS : Ent := mkE tysC 36 [e_laws_toTarget] h_laws_toTargetS Tryz.f36 [(.vw, (.lst false (.pair .str (.pair .str (.pair (.int .i64) (.pair (.int .i64) .unit))))))] true (.lst true (.pair .str (.pair .str (.pair (.int .i64) (.pair (.int .i64) .unit)))))
theorem ok_laws_toTargetS : e_laws_toTargetS.Ok Tryz.prog := mkE_ok envC (ok_cons ok_laws_toTarget ok_nil) Tryz.func36 (by decide +kernel) (by kernel_rfl)
def h_laws_toPolicy : List (Nat × Hint) := []
noncomputable def e_laws_toPolicy : Ent := mkE tysC 11 [e_laws_toTargetS] h_laws_toPolicy Tryz.f11 [(.vw, (.pair .str (.pair (.lst false (.pair .str (.pair .str (.pair (.int .i64) (.pair (.int .i64) .unit))))) .unit)))] true (.pair .str (.pair (.lst true (.pair .str (.pair .str (.pair (.int .i64) (.pair (.int .i64) .unit))))) .unit))
theorem ok_laws_toPolicy : e_laws_toPolicy.Ok Tryz.prog := mkE_ok envC (ok_cons ok_laws_toTargetS ok_nil) Tryz.func11 (by decide +kernel) (by kernel_rfl)
def h_spec_l1Split : List (Nat × Hint) := [(122, .loop ⟨[0, 1], [(5, 0, (.lst true .str)), (6, 0, (.int .i64)), (7, 0, (.int .i64))]⟩ [(2, ⟨[0], [(5, 0, (.lst true .str)), (6, 0, (.int .i64))]⟩)]), (489, .join [(0, ⟨[0, 1, 7], [(5, 0, (.lst true .str)), (6, 0, (.int .i64))]⟩)])]
noncomputable def e_spec_l1Split : Ent := mkE tysC 89 [] h_spec_l1Split Tryz.f89 [(.vw, .str), (.vw, (.int .u8))] true (.lst true .str)
theorem ok_spec_l1Split : e_spec_l1Split.Ok Tryz.prog := mkE_ok envC ok_nil Tryz.func89 (by decide +kernel) (by kernel_rfl)
def h_spec_l1In : List (Nat × Hint) := [(3, .join [(0, ⟨[], [(6, 0, .bool)]⟩)])]
noncomputable def e_spec_l1In : Ent := mkE tysC 62 [] h_spec_l1In Tryz.f62 [(.vw, (.int .i64)), (.vw, (.int .i64)), (.vw, (.int .i64))] true .bool
theorem ok_spec_l1In : e_spec_l1In.Ok Tryz.prog := mkE_ok envC ok_nil Tryz.func62 (by decide +kernel) (by kernel_rfl)
def h_spec_l1Int : List (Nat × Hint) := [(122, .loop ⟨[0], [(3, 0, (.int .i64)), (4, 0, (.int .i64))]⟩ [(1, ⟨[], [(2, 0, (.int .i64))]⟩), (2, ⟨[], [(3, 0, (.int .i64))]⟩)]), (3912, .join [(0, ⟨[0, 3, 4], [(34, 0, .bool)]⟩)]), (6, .join [(0, ⟨[0], [(18, 0, .bool)]⟩)])]
noncomputable def e_spec_l1Int : Ent := mkE tysC 90 [e_spec_l1In] h_spec_l1Int Tryz.f90 [(.vw, .str)] true (.int .i64)
theorem ok_spec_l1Int : e_spec_l1Int.Ok Tryz.prog := mkE_ok envC (ok_cons ok_spec_l1In ok_nil) Tryz.func90 (by decide +kernel) (by kernel_rfl)
def h_spec_l3Number : List (Nat × Hint) := [(58, .loop ⟨[], [(0, 0, (.int .i64)), (5, 0, (.lst true (.int .u8))), (6, 0, (.int .i64))]⟩ [(2, ⟨[], [(5, 0, (.lst true (.int .u8)))]⟩)])]
noncomputable def e_spec_l3Number : Ent := mkE tysC 91 [] h_spec_l3Number Tryz.f91 [(.vw, (.int .i64)), (.vw, (.int .i64))] true .str
theorem ok_spec_l3Number : e_spec_l3Number.Ok Tryz.prog := mkE_ok envC ok_nil Tryz.func91 (by decide +kernel) (by kernel_rfl)
def h_spec_l1Label : List (Nat × Hint) := [(58, .loop ⟨[0], [(3, 0, (.int .i64))]⟩ [(1, ⟨[2], []⟩), (2, ⟨[0], []⟩)]), (1865, .join [(0, ⟨[0, 3], [(38, 0, .bool)]⟩)])]
noncomputable def e_spec_l1Label : Ent := mkE tysC 114 [e_spec_l1In] h_spec_l1Label Tryz.f114 [(.vw, .str)] true .bool
theorem ok_spec_l1Label : e_spec_l1Label.Ok Tryz.prog := mkE_ok envC (ok_cons ok_spec_l1In ok_nil) Tryz.func114 (by decide +kernel) (by kernel_rfl)
def h_spec_l1Labels : List (Nat × Hint) := [(31, .join [(0, ⟨[], [(2, 0, (.lst true .str)), (3, 0, .bool)]⟩)]), (122, .loop ⟨[0, 4, 11, 12], [(13, 0, (.int .i64))]⟩ [(1, ⟨[2, 3], []⟩), (2, ⟨[0, 4], []⟩)])]
noncomputable def e_spec_l1Labels : Ent := mkE tysC 94 [e_spec_l1Split, e_spec_l1Label] h_spec_l1Labels Tryz.f94 [(.vw, .str)] false (.pair (.lst true .str) (.pair .bool .unit))
theorem ok_spec_l1Labels : e_spec_l1Labels.Ok Tryz.prog := mkE_ok envC (ok_cons ok_spec_l1Split (ok_cons ok_spec_l1Label ok_nil)) Tryz.func94 (by decide +kernel) (by kernel_rfl)
def h_spec_l3Target : List (Nat × Hint) := [(15, .join [(0, ⟨[], [(2, 0, .bool)]⟩)]), (58, .loop ⟨[0, 3, 12, 13], [(4, 0, .bool), (14, 0, (.int .i64))]⟩ [(2, ⟨[0], [(4, 0, .bool)]⟩)]), (467, .join [(0, ⟨[0, 3, 12, 13, 14], [(4, 0, .bool)]⟩)])]
noncomputable def e_spec_l3Target : Ent := mkE tysC 92 [e_spec_l1Labels] h_spec_l3Target Tryz.f92 [(.vw, .str)] true .bool
theorem ok_spec_l3Target : e_spec_l3Target.Ok Tryz.prog := mkE_ok envC (ok_cons ok_spec_l1Labels ok_nil) Tryz.func92 (by decide +kernel) (by kernel_rfl)
def h_spec_l2Bytes : List (Nat × Hint) := [(122, .loop ⟨[3, 13, 14], [(5, 0, .str), (15, 0, (.int .i64))]⟩ [(2, ⟨[], [(5, 0, .str)]⟩)])]
noncomputable def e_spec_l2Bytes : Ent := mkE tysC 93 [e_spec_l1Labels] h_spec_l2Bytes Tryz.f93 [(.vw, .str)] true .str
theorem ok_spec_l2Bytes : e_spec_l2Bytes.Ok Tryz.prog := mkE_ok envC (ok_cons ok_spec_l1Labels ok_nil) Tryz.func93 (by decide +kernel) (by kernel_rfl)
def h_spec_l3Bytes : List (Nat × Hint) := [(221170, .loop ⟨[1], [(13, 0, (.int .i64))]⟩ [(1, ⟨[], [(4, 0, .str), (5, 0, .bool)]⟩), (5, ⟨[1], []⟩)]), (3538724, .join [(0, ⟨[1, 13], [(104, 0, .bool)]⟩)]), (27642, .join [(0, ⟨[12], [(76, 0, .bool)]⟩)]), (107, .join [(0, ⟨[1, 14], [(39, 0, .bool)]⟩)]), (3418, .loop ⟨[7, 19, 20], [(6, 0, .str), (21, 0, (.int .i64))]⟩ [(1, ⟨[4, 5], []⟩), (3, ⟨[7], [(6, 0, .str)]⟩)])]
noncomputable def e_spec_l3Bytes : Ent := mkE tysC 60 [e_spec_l1Split, e_spec_l1Int, e_spec_l1In, e_spec_l3Number, e_spec_l3Target, e_spec_l2Bytes] h_spec_l3Bytes Tryz.f60 [(.vw, (.int .i64)), (.vw, .str)] false (.pair .str (.pair .bool .unit))
theorem ok_spec_l3Bytes : e_spec_l3Bytes.Ok Tryz.prog := mkE_ok envC (ok_cons ok_spec_l1Split (ok_cons ok_spec_l1Int (ok_cons ok_spec_l1In (ok_cons ok_spec_l3Number (ok_cons ok_spec_l3Target (ok_cons ok_spec_l2Bytes ok_nil)))))) Tryz.func60 (by decide +kernel) (by kernel_rfl)
def h_spec_GoodName : List (Nat × Hint) := []
noncomputable def e_spec_GoodName : Ent := mkE tysC 61 [e_spec_l1Labels] h_spec_GoodName Tryz.f61 [(.vw, .str)] true .bool
theorem ok_spec_GoodName : e_spec_GoodName.Ok Tryz.prog := mkE_ok envC (ok_cons ok_spec_l1Labels ok_nil) Tryz.func61 (by decide +kernel) (by kernel_rfl)
def h_spec_GoodPolicy : List (Nat × Hint) := [(7, .join [(0, ⟨[], [(2, 0, .bool)]⟩)]), (26, .loop ⟨[1, 8, 9], [(10, 0, (.int .i64))]⟩ [(1, ⟨[2], []⟩), (2, ⟨[1], []⟩)]), (3379, .join [(0, ⟨[1, 8, 9, 10], [(39, 0, .bool)]⟩)])]
noncomputable def e_spec_GoodPolicy : Ent := mkE tysC 34 [e_spec_l3Bytes, e_spec_GoodName, e_spec_l1In] h_spec_GoodPolicy Tryz.f34 [(.vw, (.pair .str (.pair (.lst false (.pair .str (.pair .str (.pair (.int .i64) (.pair (.int .i64) .unit))))) .unit)))] true .bool
theorem ok_spec_GoodPolicy : e_spec_GoodPolicy.Ok Tryz.prog := mkE_ok envC (ok_cons ok_spec_l3Bytes (ok_cons ok_spec_GoodName (ok_cons ok_spec_l1In ok_nil))) Tryz.func34 (by decide +kernel) (by kernel_rfl)
def h_spec_l1Has : List (Nat × Hint) := [(26, .loop ⟨[1, 7, 8], [(9, 0, (.int .i64))]⟩ [(1, ⟨[], [(4, 0, .bool)]⟩), (2, ⟨[], []⟩)])]
noncomputable def e_spec_l1Has : Ent := mkE tysC 63 [] h_spec_l1Has Tryz.f63 [(.vw, (.lst false (.int .i64))), (.vw, (.int .i64))] true .bool
theorem ok_spec_l1Has : e_spec_l1Has.Ok Tryz.prog := mkE_ok envC ok_nil Tryz.func63 (by decide +kernel) (by kernel_rfl)
def h_spec_l14Groups : List (Nat × Hint) := [(58, .loop ⟨[1], [(3, 0, (.lst true (.int .i64))), (4, 0, (.int .i64))]⟩ [(2, ⟨[], [(3, 0, (.lst true (.int .i64)))]⟩)]), (3730, .loop ⟨[1, 4, 12, 13], [(3, 0, (.lst true (.int .i64))), (14, 0, (.int .i64))]⟩ [(4, ⟨[1, 4], [(3, 0, (.lst true (.int .i64)))]⟩)]), (29843, .join [(0, ⟨[1, 4, 12, 13, 14], [(3, 0, (.lst true (.int .i64)))]⟩)]), (238745, .join [(0, ⟨[1, 3, 4, 12, 13, 14], [(27, 0, .bool)]⟩)]), (0, .frz [2])]
noncomputable def e_spec_l14Groups : Ent := mkE tysC 35 [e_spec_l1Has] h_spec_l14Groups Tryz.f35 [(.vw, (.pair .str (.pair (.lst false (.pair .str (.pair .str (.pair (.int .i64) (.pair (.int .i64) .unit))))) .unit)))] true (.lst true (.int .i64))
theorem ok_spec_l14Groups : e_spec_l14Groups.Ok Tryz.prog := mkE_ok envC (ok_cons ok_spec_l1Has ok_nil) Tryz.func35 (by decide +kernel) (by kernel_rfl)
def h_spec_GroupsIn : List (Nat × Hint) := []
noncomputable def e_spec_GroupsIn : Ent := mkE tysC 10 [e_spec_GoodPolicy, e_spec_l14Groups] h_spec_GroupsIn Tryz.f10 [(.vw, (.pair .str (.pair (.lst false (.pair .str (.pair .str (.pair (.int .i64) (.pair (.int .i64) .unit))))) .unit)))] false (.pair (.lst true (.int .i64)) (.pair .bool .unit))
theorem ok_spec_GroupsIn : e_spec_GroupsIn.Ok Tryz.prog := mkE_ok envC (ok_cons ok_spec_GoodPolicy (ok_cons ok_spec_l14Groups ok_nil)) Tryz.func10 (by decide +kernel) (by kernel_rfl)
noncomputable abbrev e_strings_Split : Ent := splitE 100
theorem ok_strings_Split : e_strings_Split.Ok Tryz.prog := splitE_ok Tryz.l146 (by kernel_rfl) Tryz.func100 (by decide +kernel) rfl glbMaxLen
def h_impl_labelsOf : List (Nat × Hint) := []
noncomputable def e_impl_labelsOf : Ent := mkE tysC 95 [e_strings_Split] h_impl_labelsOf Tryz.f95 [(.vw, .str)] true (.lst true .str)
theorem ok_impl_labelsOf : e_impl_labelsOf.Ok Tryz.prog := mkE_ok envC (ok_cons ok_strings_Split ok_nil) Tryz.func95 (by decide +kernel) (by kernel_rfl)
def h_impl_within : List (Nat × Hint) := [(3, .join [(0, ⟨[], [(6, 0, .bool)]⟩)])]
noncomputable def e_impl_within : Ent := mkE tysC 66 [] h_impl_within Tryz.f66 [(.vw, (.int .i64)), (.vw, (.int .i64)), (.vw, (.int .i64))] true .bool
theorem ok_impl_within : e_impl_within.Ok Tryz.prog := mkE_ok envC ok_nil Tryz.func66 (by decide +kernel) (by kernel_rfl)
noncomputable abbrev e_strings_Trim : Ent := trimE 116
theorem ok_strings_Trim : e_strings_Trim.Ok Tryz.prog := trimE_ok Tryz.l160 (by kernel_rfl) (by kernel_rfl) Tryz.func116 (by decide +kernel) rfl
def h_impl_isLabel : List (Nat × Hint) := [(7, .join [(0, ⟨[], [(2, 0, .bool)]⟩)])]
noncomputable def e_impl_isLabel : Ent := mkE tysC 98 [e_impl_within, e_strings_Trim] h_impl_isLabel Tryz.f98 [(.vw, .str)] true .bool
theorem ok_impl_isLabel : e_impl_isLabel.Ok Tryz.prog := mkE_ok envC (ok_cons ok_impl_within (ok_cons ok_strings_Trim ok_nil)) Tryz.func98 (by decide +kernel) (by kernel_rfl)
def h_impl_GoodName_1 : List (Nat × Hint) := []
noncomputable def e_impl_GoodName_1 : Ent := mkE tysC 97 [e_impl_isLabel] h_impl_GoodName_1 Tryz.f97 [(.vw, .str)] true .bool
theorem ok_impl_GoodName_1 : e_impl_GoodName_1.Ok Tryz.prog := mkE_ok envC (ok_cons ok_impl_isLabel ok_nil) Tryz.func97 (by decide +kernel) (by kernel_rfl)
def h_slices_IndexFunc_string_string__impl_GoodName_1 : List (Nat × Hint) := [(26, .loop ⟨[0, 1, 7], [(8, 0, (.int .i64))]⟩ [(1, ⟨[], [(4, 0, (.int .i64))]⟩), (2, ⟨[], []⟩)])]
noncomputable def e_slices_IndexFunc_string_string__impl_GoodName_1 : Ent := mkE tysC 115 [e_impl_GoodName_1] h_slices_IndexFunc_string_string__impl_GoodName_1 Tryz.f115 [(.vw, (.lst false .str)), (.vw, (.fn 97 .unit))] true (.int .i64)
theorem ok_slices_IndexFunc_string_string__impl_GoodName_1 : e_slices_IndexFunc_string_string__impl_GoodName_1.Ok Tryz.prog := mkE_ok envC (ok_cons ok_impl_GoodName_1 ok_nil) Tryz.func115 (by decide +kernel) (by kernel_rfl)
def h_slices_ContainsFunc_string_string__impl_GoodName_1 : List (Nat × Hint) := []
noncomputable def e_slices_ContainsFunc_string_string__impl_GoodName_1 : Ent := mkE tysC 96 [e_slices_IndexFunc_string_string__impl_GoodName_1] h_slices_ContainsFunc_string_string__impl_GoodName_1 Tryz.f96 [(.vw, (.lst false .str)), (.vw, (.fn 97 .unit))] true .bool
theorem ok_slices_ContainsFunc_string_string__impl_GoodName_1 : e_slices_ContainsFunc_string_string__impl_GoodName_1.Ok Tryz.prog := mkE_ok envC (ok_cons ok_slices_IndexFunc_string_string__impl_GoodName_1 ok_nil) Tryz.func96 (by decide +kernel) (by kernel_rfl)
def h_impl_GoodName : List (Nat × Hint) := [(15, .join [(0, ⟨[], [(2, 0, .bool)]⟩)])]
noncomputable def e_impl_GoodName : Ent := mkE tysC 65 [e_impl_labelsOf, e_slices_ContainsFunc_string_string__impl_GoodName_1] h_impl_GoodName Tryz.f65 [(.vw, .str)] true .bool
theorem ok_impl_GoodName : e_impl_GoodName.Ok Tryz.prog := mkE_ok envC (ok_cons ok_impl_labelsOf (ok_cons ok_slices_ContainsFunc_string_string__impl_GoodName_1 ok_nil)) Tryz.func65 (by decide +kernel) (by kernel_rfl)
noncomputable abbrev e_strconv_Atoi : Ent := atoiE 118
theorem ok_strconv_Atoi : e_strconv_Atoi.Ok Tryz.prog := atoiE_ok Tryz.l172 (by kernel_rfl) Tryz.func118 (by decide +kernel) rfl glbSyn glbRng
noncomputable abbrev e_strconv_Itoa : Ent := itoaE 119
theorem ok_strconv_Itoa : e_strconv_Itoa.Ok Tryz.prog := itoaE_ok Tryz.l171 (by kernel_rfl) Tryz.func119 (by decide +kernel) rfl (by kernel_rfl) glbPow
def h_impl_numberIn : List (Nat × Hint) := [(7, .join [(0, ⟨[], [(4, 0, (.int .i64)), (5, 0, .bool)]⟩)])]
noncomputable def e_impl_numberIn : Ent := mkE tysC 101 [e_strconv_Atoi, e_impl_within, e_strconv_Itoa] h_impl_numberIn Tryz.f101 [(.vw, .str), (.vw, (.int .i64))] false (.pair (.int .i64) (.pair .bool .unit))
theorem ok_impl_numberIn : e_impl_numberIn.Ok Tryz.prog := mkE_ok envC (ok_cons ok_strconv_Atoi (ok_cons ok_impl_within (ok_cons ok_strconv_Itoa ok_nil))) Tryz.func101 (by decide +kernel) (by kernel_rfl)
def h_impl_big : List (Nat × Hint) := [(58, .loop ⟨[0], [(5, 0, (.lst true (.int .u8))), (6, 0, (.int .i64))]⟩ [(2, ⟨[], [(5, 0, (.lst true (.int .u8)))]⟩)])]
noncomputable def e_impl_big : Ent := mkE tysC 102 [] h_impl_big Tryz.f102 [(.vw, (.int .i64)), (.vw, (.int .i64))] true .str
theorem ok_impl_big : e_impl_big.Ok Tryz.prog := mkE_ok envC ok_nil Tryz.func102 (by decide +kernel) (by kernel_rfl)
noncomputable abbrev e_strings_Contains : Ent := containsE 120
theorem ok_strings_Contains : e_strings_Contains.Ok Tryz.prog := containsE_ok Tryz.l144 (by kernel_rfl) Tryz.func120 (by decide +kernel) rfl glbMaxLen
def h_impl_isTarget : List (Nat × Hint) := [(3, .join [(0, ⟨[], [(2, 0, .bool)]⟩)])]
noncomputable def e_impl_isTarget : Ent := mkE tysC 103 [e_impl_GoodName, e_strings_Contains] h_impl_isTarget Tryz.f103 [(.vw, .str)] true .bool
theorem ok_impl_isTarget : e_impl_isTarget.Ok Tryz.prog := mkE_ok envC (ok_cons ok_impl_GoodName (ok_cons ok_strings_Contains ok_nil)) Tryz.func103 (by decide +kernel) (by kernel_rfl)
def h_impl_labelBytes : List (Nat × Hint) := [(58, .loop ⟨[7, 8], [(3, 0, .str), (9, 0, (.int .i64))]⟩ [(2, ⟨[], [(3, 0, .str)]⟩)])]
noncomputable def e_impl_labelBytes : Ent := mkE tysC 104 [e_impl_labelsOf] h_impl_labelBytes Tryz.f104 [(.vw, .str)] true .str
theorem ok_impl_labelBytes : e_impl_labelBytes.Ok Tryz.prog := mkE_ok envC (ok_cons ok_impl_labelsOf ok_nil) Tryz.func104 (by decide +kernel) (by kernel_rfl)
noncomputable abbrev e_strings_Cut : Ent := cutE 105
theorem ok_strings_Cut : e_strings_Cut.Ok Tryz.prog := cutE_ok Tryz.l145 (by kernel_rfl) Tryz.func105 (by decide +kernel) rfl glbMaxLen
def h_impl_DataBytes_1 : List (Nat × Hint) := [(3, .join [(0, ⟨[], [(2, 0, .bool)]⟩)])]
noncomputable def e_impl_DataBytes_1 : Ent := mkE tysC 107 [] h_impl_DataBytes_1 Tryz.f107 [(.vw, (.int .u8))] true .bool
theorem ok_impl_DataBytes_1 : e_impl_DataBytes_1.Ok Tryz.prog := mkE_ok envC ok_nil Tryz.func107 (by decide +kernel) (by kernel_rfl)
def h_slices_IndexFunc_byte_byte__impl_DataBytes_1 : List (Nat × Hint) := [(26, .loop ⟨[0, 1, 7], [(8, 0, (.int .i64))]⟩ [(1, ⟨[], [(4, 0, (.int .i64))]⟩), (2, ⟨[], []⟩)])]
noncomputable def e_slices_IndexFunc_byte_byte__impl_DataBytes_1 : Ent := mkE tysC 122 [e_impl_DataBytes_1] h_slices_IndexFunc_byte_byte__impl_DataBytes_1 Tryz.f122 [(.vw, (.lst false (.int .u8))), (.vw, (.fn 107 .unit))] true (.int .i64)
theorem ok_slices_IndexFunc_byte_byte__impl_DataBytes_1 : e_slices_IndexFunc_byte_byte__impl_DataBytes_1.Ok Tryz.prog := mkE_ok envC (ok_cons ok_impl_DataBytes_1 ok_nil) Tryz.func122 (by decide +kernel) (by kernel_rfl)
def h_slices_ContainsFunc_byte_byte__impl_DataBytes_1 : List (Nat × Hint) := []
noncomputable def e_slices_ContainsFunc_byte_byte__impl_DataBytes_1 : Ent := mkE tysC 106 [e_slices_IndexFunc_byte_byte__impl_DataBytes_1] h_slices_ContainsFunc_byte_byte__impl_DataBytes_1 Tryz.f106 [(.vw, (.lst false (.int .u8))), (.vw, (.fn 107 .unit))] true .bool
theorem ok_slices_ContainsFunc_byte_byte__impl_DataBytes_1 : e_slices_ContainsFunc_byte_byte__impl_DataBytes_1.Ok Tryz.prog := mkE_ok envC (ok_cons ok_slices_IndexFunc_byte_byte__impl_DataBytes_1 ok_nil) Tryz.func106 (by decide +kernel) (by kernel_rfl)
def h_impl_DataBytes : List (Nat × Hint) := [(55292, .join [(0, ⟨[1], [(103, 0, .bool)]⟩)]), (55286, .join [(0, ⟨[15, 17], [(87, 0, .bool)]⟩)]), (107, .join [(0, ⟨[1, 19], [(48, 0, .bool)]⟩)]), (3418, .loop ⟨[7, 24, 25], [(6, 0, .str), (26, 0, (.int .i64))]⟩ [(1, ⟨[4, 5], []⟩), (3, ⟨[], [(6, 0, .str)]⟩)]), (875110, .join [(0, ⟨[6, 7, 10, 24, 25, 26], [(41, 0, .bool)]⟩)])]
noncomputable def e_impl_DataBytes : Ent := mkE tysC 69 [e_strings_Split, e_impl_numberIn, e_impl_big, e_impl_isTarget, e_impl_labelBytes, e_strings_Cut, e_slices_ContainsFunc_byte_byte__impl_DataBytes_1] h_impl_DataBytes Tryz.f69 [(.vw, (.int .i64)), (.vw, .str)] false (.pair .str (.pair .bool .unit))
theorem ok_impl_DataBytes : e_impl_DataBytes.Ok Tryz.prog := mkE_ok envC (ok_cons ok_strings_Split (ok_cons ok_impl_numberIn (ok_cons ok_impl_big (ok_cons ok_impl_isTarget (ok_cons ok_impl_labelBytes (ok_cons ok_strings_Cut (ok_cons ok_slices_ContainsFunc_byte_byte__impl_DataBytes_1 ok_nil))))))) Tryz.func69 (by decide +kernel) (by kernel_rfl)
def h_impl_GoodPolicy_1 : List (Nat × Hint) := [(7, .join [(0, ⟨[], [(2, 0, .bool)]⟩)])]
noncomputable def e_impl_GoodPolicy_1 : Ent := mkE tysC 68 [e_impl_DataBytes, e_impl_GoodName, e_impl_within] h_impl_GoodPolicy_1 Tryz.f68 [(.vw, (.pair .str (.pair .str (.pair (.int .i64) (.pair (.int .i64) .unit)))))] true .bool
theorem ok_impl_GoodPolicy_1 : e_impl_GoodPolicy_1.Ok Tryz.prog := mkE_ok envC (ok_cons ok_impl_DataBytes (ok_cons ok_impl_GoodName (ok_cons ok_impl_within ok_nil))) Tryz.func68 (by decide +kernel) (by kernel_rfl)
def h_slices_IndexFunc_impl_Target_impl_Target__impl_GoodPolicy_1 : List (Nat × Hint) := [(26, .loop ⟨[0, 1, 7], [(8, 0, (.int .i64))]⟩ [(1, ⟨[], [(4, 0, (.int .i64))]⟩), (2, ⟨[], []⟩)])]
noncomputable def e_slices_IndexFunc_impl_Target_impl_Target__impl_GoodPolicy_1 : Ent := mkE tysC 99 [e_impl_GoodPolicy_1] h_slices_IndexFunc_impl_Target_impl_Target__impl_GoodPolicy_1 Tryz.f99 [(.vw, (.lst false (.pair .str (.pair .str (.pair (.int .i64) (.pair (.int .i64) .unit)))))), (.vw, (.fn 68 .unit))] true (.int .i64)
theorem ok_slices_IndexFunc_impl_Target_impl_Target__impl_GoodPolicy_1 : e_slices_IndexFunc_impl_Target_impl_Target__impl_GoodPolicy_1.Ok Tryz.prog := mkE_ok envC (ok_cons ok_impl_GoodPolicy_1 ok_nil) Tryz.func99 (by decide +kernel) (by kernel_rfl)
def h_slices_ContainsFunc_impl_Target_impl_Target__impl_GoodPolicy_1 : List (Nat × Hint) := []
noncomputable def e_slices_ContainsFunc_impl_Target_impl_Target__impl_GoodPolicy_1 : Ent := mkE tysC 67 [e_slices_IndexFunc_impl_Target_impl_Target__impl_GoodPolicy_1] h_slices_ContainsFunc_impl_Target_impl_Target__impl_GoodPolicy_1 Tryz.f67 [(.vw, (.lst false (.pair .str (.pair .str (.pair (.int .i64) (.pair (.int .i64) .unit)))))), (.vw, (.fn 68 .unit))] true .bool
theorem ok_slices_ContainsFunc_impl_Target_impl_Target__impl_GoodPolicy_1 : e_slices_ContainsFunc_impl_Target_impl_Target__impl_GoodPolicy_1.Ok Tryz.prog := mkE_ok envC (ok_cons ok_slices_IndexFunc_impl_Target_impl_Target__impl_GoodPolicy_1 ok_nil) Tryz.func67 (by decide +kernel) (by kernel_rfl)
def h_impl_GoodPolicy : List (Nat × Hint) := [(3, .join [(0, ⟨[], [(2, 0, .bool)]⟩)])]
noncomputable def e_impl_GoodPolicy : Ent := mkE tysC 37 [e_impl_GoodName, e_impl_within, e_slices_ContainsFunc_impl_Target_impl_Target__impl_GoodPolicy_1] h_impl_GoodPolicy Tryz.f37 [(.vw, (.pair .str (.pair (.lst false (.pair .str (.pair .str (.pair (.int .i64) (.pair (.int .i64) .unit))))) .unit)))] true .bool
theorem ok_impl_GoodPolicy : e_impl_GoodPolicy.Ok Tryz.prog := mkE_ok envC (ok_cons ok_impl_GoodName (ok_cons ok_impl_within (ok_cons ok_slices_ContainsFunc_impl_Target_impl_Target__impl_GoodPolicy_1 ok_nil))) Tryz.func37 (by decide +kernel) (by kernel_rfl)
noncomputable abbrev e_slices_Sort_int_int : Ent := sortE 70
theorem ok_slices_Sort_int_int : e_slices_Sort_int_int.Ok Tryz.prog := sortE_ok Tryz.l189 (by kernel_rfl) Tryz.func70 (by decide +kernel) rfl
noncomputable abbrev e_slices_Compact_int_int : Ent := compactE 71
theorem ok_slices_Compact_int_int : e_slices_Compact_int_int.Ok Tryz.prog := compactE_ok Tryz.l20 (by kernel_rfl) Tryz.func71 (by decide +kernel) rfl
def h_impl_groupsIn : List (Nat × Hint) := [(58, .loop ⟨[8, 9], [(3, 0, (.lst true (.int .i64))), (10, 0, (.int .i64))]⟩ [(2, ⟨[], [(3, 0, (.lst true (.int .i64)))]⟩)])]
noncomputable def e_impl_groupsIn : Ent := mkE tysC 38 [e_slices_Sort_int_int, e_slices_Compact_int_int] h_impl_groupsIn Tryz.f38 [(.vw, (.pair .str (.pair (.lst false (.pair .str (.pair .str (.pair (.int .i64) (.pair (.int .i64) .unit))))) .unit)))] true (.lst true (.int .i64))
theorem ok_impl_groupsIn : e_impl_groupsIn.Ok Tryz.prog := mkE_ok envC (ok_cons ok_slices_Sort_int_int (ok_cons ok_slices_Compact_int_int ok_nil)) Tryz.func38 (by decide +kernel) (by kernel_rfl)
def h_impl_GroupsIn : List (Nat × Hint) := []
noncomputable def e_impl_GroupsIn : Ent := mkE tysC 12 [e_impl_GoodPolicy, e_impl_groupsIn] h_impl_GroupsIn Tryz.f12 [(.vw, (.pair .str (.pair (.lst false (.pair .str (.pair .str (.pair (.int .i64) (.pair (.int .i64) .unit))))) .unit)))] false (.pair (.lst true (.int .i64)) (.pair .bool .unit))
theorem ok_impl_GroupsIn : e_impl_GroupsIn.Ok Tryz.prog := mkE_ok envC (ok_cons ok_impl_GoodPolicy (ok_cons ok_impl_groupsIn ok_nil)) Tryz.func12 (by decide +kernel) (by kernel_rfl)
def h_laws_eqIntS : List (Nat × Hint) := [(58, .loop ⟨[0, 1], [(5, 0, (.int .i64))]⟩ [(1, ⟨[4], []⟩), (2, ⟨[], []⟩)])]
noncomputable def e_laws_eqIntS : Ent := mkE tysC 13 [] h_laws_eqIntS Tryz.f13 [(.vw, (.lst false (.int .i64))), (.vw, (.lst false (.int .i64)))] true .bool
theorem ok_laws_eqIntS : e_laws_eqIntS.Ok Tryz.prog := mkE_ok envC ok_nil Tryz.func13 (by decide +kernel) (by kernel_rfl)
def h_laws_eqTarget : List (Nat × Hint) := []
noncomputable def e_laws_eqTarget : Ent := mkE tysC 72 [] h_laws_eqTarget Tryz.f72 [(.vw, (.pair .str (.pair .str (.pair (.int .i64) (.pair (.int .i64) .unit))))), (.vw, (.pair .str (.pair .str (.pair (.int .i64) (.pair (.int .i64) .unit)))))] true .bool
theorem ok_laws_eqTarget : e_laws_eqTarget.Ok Tryz.prog := mkE_ok envC ok_nil Tryz.func72 (by decide +kernel) (by kernel_rfl)
def h_laws_eqTargetS : List (Nat × Hint) := [(58, .loop ⟨[0, 1], [(5, 0, (.int .i64))]⟩ [(1, ⟨[4], []⟩), (2, ⟨[], []⟩)])]
noncomputable def e_laws_eqTargetS : Ent := mkE tysC 39 [e_laws_eqTarget] h_laws_eqTargetS Tryz.f39 [(.vw, (.lst false (.pair .str (.pair .str (.pair (.int .i64) (.pair (.int .i64) .unit)))))), (.vw, (.lst false (.pair .str (.pair .str (.pair (.int .i64) (.pair (.int .i64) .unit))))))] true .bool
theorem ok_laws_eqTargetS : e_laws_eqTargetS.Ok Tryz.prog := mkE_ok envC (ok_cons ok_laws_eqTarget ok_nil) Tryz.func39 (by decide +kernel) (by kernel_rfl)
def h_laws_eqPolicy : List (Nat × Hint) := []
noncomputable def e_laws_eqPolicy : Ent := mkE tysC 14 [e_laws_eqTargetS] h_laws_eqPolicy Tryz.f14 [(.vw, (.pair .str (.pair (.lst false (.pair .str (.pair .str (.pair (.int .i64) (.pair (.int .i64) .unit))))) .unit))), (.vw, (.pair .str (.pair (.lst false (.pair .str (.pair .str (.pair (.int .i64) (.pair (.int .i64) .unit))))) .unit)))] true .bool
theorem ok_laws_eqPolicy : e_laws_eqPolicy.Ok Tryz.prog := mkE_ok envC (ok_cons ok_laws_eqTargetS ok_nil) Tryz.func14 (by decide +kernel) (by kernel_rfl)
def h_laws_markText : List (Nat × Hint) := [(60, .loop ⟨[], [(0, 0, (.int .i64)), (3, 0, .str)]⟩ [(2, ⟨[], [(3, 0, .str)]⟩)])]
noncomputable def e_laws_markText : Ent := mkE tysC 73 [] h_laws_markText Tryz.f73 [(.vw, (.int .i64))] true .str
theorem ok_laws_markText : e_laws_markText.Ok Tryz.prog := mkE_ok envC ok_nil Tryz.func73 (by decide +kernel) (by kernel_rfl)
def h_laws_markTargetS : List (Nat × Hint) := [(26, .loop ⟨[], [(0, 0, (.lst true (.pair .str (.pair .str (.pair (.int .i64) (.pair (.int .i64) .unit)))))), (1, 0, (.int .i64)), (5, 0, (.int .i64))]⟩ [(2, ⟨[], [(0, 0, (.lst true (.pair .str (.pair .str (.pair (.int .i64) (.pair (.int .i64) .unit)))))), (1, 0, (.int .i64))]⟩)])]
noncomputable def e_laws_markTargetS : Ent := mkE tysC 40 [e_laws_markText] h_laws_markTargetS Tryz.f40 [(.io, (.lst true (.pair .str (.pair .str (.pair (.int .i64) (.pair (.int .i64) .unit)))))), (.vw, (.int .i64))] true (.int .i64)
theorem ok_laws_markTargetS : e_laws_markTargetS.Ok Tryz.prog := mkE_ok envC (ok_cons ok_laws_markText ok_nil) Tryz.func40 (by decide +kernel) (by kernel_rfl)
def h_laws_markPolicy : List (Nat × Hint) := []
noncomputable def e_laws_markPolicy : Ent := mkE tysC 15 [e_laws_markTargetS] h_laws_markPolicy Tryz.f15 [(.io, (.pair .str (.pair (.lst true (.pair .str (.pair .str (.pair (.int .i64) (.pair (.int .i64) .unit))))) .unit))), (.vw, (.int .i64))] true (.int .i64)
theorem ok_laws_markPolicy : e_laws_markPolicy.Ok Tryz.prog := mkE_ok envC (ok_cons ok_laws_markTargetS ok_nil) Tryz.func15 (by decide +kernel) (by kernel_rfl)
def h_laws_markIntS : List (Nat × Hint) := [(26, .loop ⟨[], [(0, 0, (.lst true (.int .i64))), (1, 0, (.int .i64)), (5, 0, (.int .i64))]⟩ [(2, ⟨[], [(0, 0, (.lst true (.int .i64))), (1, 0, (.int .i64))]⟩)])]
noncomputable def e_laws_markIntS : Ent := mkE tysC 16 [] h_laws_markIntS Tryz.f16 [(.io, (.lst true (.int .i64))), (.vw, (.int .i64))] true (.int .i64)
theorem ok_laws_markIntS : e_laws_markIntS.Ok Tryz.prog := mkE_ok envC ok_nil Tryz.func16 (by decide +kernel) (by kernel_rfl)
def h_laws_heldIntS : List (Nat × Hint) := [(26, .loop ⟨[0], [(1, 0, (.int .i64)), (5, 0, (.int .i64))]⟩ [(1, ⟨[], [(4, 0, (.int .i64))]⟩), (2, ⟨[], [(1, 0, (.int .i64))]⟩)])]
noncomputable def e_laws_heldIntS : Ent := mkE tysC 17 [] h_laws_heldIntS Tryz.f17 [(.vw, (.lst false (.int .i64))), (.vw, (.int .i64))] true (.int .i64)
theorem ok_laws_heldIntS : e_laws_heldIntS.Ok Tryz.prog := mkE_ok envC ok_nil Tryz.func17 (by decide +kernel) (by kernel_rfl)
def h_laws_FnExactGroupsIn : List (Nat × Hint) := [(2097150, .join [(0, ⟨[7, 10], [(87, 0, .bool)]⟩)]), (8190, .join [(0, ⟨[1, 4, 5, 7], [(61, 0, .bool)]⟩)]), (510, .join [(0, ⟨[1, 4, 5, 6, 7, 8], [(40, 0, .bool)]⟩)])]
noncomputable def e_laws_FnExactGroupsIn : Ent := mkE tysC 3 [e_laws_szPolicy, e_laws_toPolicy, e_spec_GroupsIn, e_impl_GroupsIn, e_laws_eqIntS, e_laws_eqPolicy, e_laws_markPolicy, e_laws_markIntS, e_laws_heldIntS] h_laws_FnExactGroupsIn Tryz.f3 [(.vw, (.pair .str (.pair (.lst false (.pair .str (.pair .str (.pair (.int .i64) (.pair (.int .i64) .unit))))) .unit)))] true .bool
theorem ok_laws_FnExactGroupsIn : e_laws_FnExactGroupsIn.Ok Tryz.prog := mkE_ok envC (ok_cons ok_laws_szPolicy (ok_cons ok_laws_toPolicy (ok_cons ok_spec_GroupsIn (ok_cons ok_impl_GroupsIn (ok_cons ok_laws_eqIntS (ok_cons ok_laws_eqPolicy (ok_cons ok_laws_markPolicy (ok_cons ok_laws_markIntS (ok_cons ok_laws_heldIntS ok_nil))))))))) Tryz.func3 (by decide +kernel) (by kernel_rfl)
def h_laws_szHost : List (Nat × Hint) := []
noncomputable def e_laws_szHost : Ent := mkE tysC 74 [] h_laws_szHost Tryz.f74 [(.vw, (.pair .str (.pair .bool (.pair (.int .i64) .unit)))), (.vw, (.int .i64))] true (.int .i64)
theorem ok_laws_szHost : e_laws_szHost.Ok Tryz.prog := mkE_ok envC ok_nil Tryz.func74 (by decide +kernel) (by kernel_rfl)
def h_laws_szHostS : List (Nat × Hint) := [(122, .loop ⟨[0], [(1, 0, (.int .i64)), (5, 0, (.int .i64))]⟩ [(1, ⟨[], [(4, 0, (.int .i64))]⟩), (2, ⟨[], [(1, 0, (.int .i64))]⟩)])]
noncomputable def e_laws_szHostS : Ent := mkE tysC 41 [e_laws_szHost] h_laws_szHostS Tryz.f41 [(.vw, (.lst false (.pair .str (.pair .bool (.pair (.int .i64) .unit))))), (.vw, (.int .i64))] true (.int .i64)
theorem ok_laws_szHostS : e_laws_szHostS.Ok Tryz.prog := mkE_ok envC (ok_cons ok_laws_szHost ok_nil) Tryz.func41 (by decide +kernel) (by kernel_rfl)
def h_laws_szHealth : List (Nat × Hint) := []
noncomputable def e_laws_szHealth : Ent := mkE tysC 18 [e_laws_szHostS] h_laws_szHealth Tryz.f18 [(.vw, (.pair (.int .i64) (.pair (.int .i64) (.pair (.lst false (.pair .str (.pair .bool (.pair (.int .i64) .unit)))) .unit)))), (.vw, (.int .i64))] true (.int .i64)
theorem ok_laws_szHealth : e_laws_szHealth.Ok Tryz.prog := mkE_ok envC (ok_cons ok_laws_szHostS ok_nil) Tryz.func18 (by decide +kernel) (by kernel_rfl)
def h_laws_toHost : List (Nat × Hint) := []
noncomputable def e_laws_toHost : Ent := mkE tysC 78 [] h_laws_toHost Tryz.f78 [(.vw, (.pair .str (.pair .bool (.pair (.int .i64) .unit))))] true (.pair .str (.pair .bool (.pair (.int .i64) .unit)))
theorem ok_laws_toHost : e_laws_toHost.Ok Tryz.prog := mkE_ok envC ok_nil Tryz.func78 (by decide +kernel) (by kernel_rfl)
def h_laws_toHostS : List (Nat × Hint) := [(58, .loop ⟨[0], [(3, 0, (.lst true (.pair .str (.pair .bool (.pair (.int .i64) .unit))))), (4, 0, (.int .i64))]⟩ [(2, ⟨[], [(3, 0, (.lst true (.pair .str (.pair .bool (.pair (.int .i64) .unit)))))]⟩)]), (0, .frz [2])]
noncomputable def e_laws_toHostS : Ent := mkE tysC 44 [e_laws_toHost] h_laws_toHostS Tryz.f44 [(.vw, (.lst false (.pair .str (.pair .bool (.pair (.int .i64) .unit)))))] true (.lst true (.pair .str (.pair .bool (.pair (.int .i64) .unit))))
theorem ok_laws_toHostS : e_laws_toHostS.Ok Tryz.prog := mkE_ok envC (ok_cons ok_laws_toHost ok_nil) Tryz.func44 (by decide +kernel) (by kernel_rfl)
def h_laws_toHealth : List (Nat × Hint) := []
noncomputable def e_laws_toHealth : Ent := mkE tysC 20 [e_laws_toHostS] h_laws_toHealth Tryz.f20 [(.vw, (.pair (.int .i64) (.pair (.int .i64) (.pair (.lst false (.pair .str (.pair .bool (.pair (.int .i64) .unit)))) .unit))))] true (.pair (.int .i64) (.pair (.int .i64) (.pair (.lst true (.pair .str (.pair .bool (.pair (.int .i64) .unit)))) .unit)))
theorem ok_laws_toHealth : e_laws_toHealth.Ok Tryz.prog := mkE_ok envC (ok_cons ok_laws_toHostS ok_nil) Tryz.func20 (by decide +kernel) (by kernel_rfl)
def h_spec_l13Most : List (Nat × Hint) := []
noncomputable def e_spec_l13Most : Ent := mkE tysC 75 [] h_spec_l13Most Tryz.f75 [(.vw, (.pair (.int .i64) (.pair (.int .i64) (.pair (.lst false (.pair .str (.pair .bool (.pair (.int .i64) .unit)))) .unit)))), (.vw, (.pair .str (.pair .bool (.pair (.int .i64) .unit))))] true (.int .i64)
theorem ok_spec_l13Most : e_spec_l13Most.Ok Tryz.prog := mkE_ok envC ok_nil Tryz.func75 (by decide +kernel) (by kernel_rfl)
def h_spec_l13Names : List (Nat × Hint) := [(26, .loop ⟨[0, 7, 8], [(9, 0, (.int .i64))]⟩ [(1, ⟨[], [(2, 0, .bool)]⟩), (2, ⟨[0], []⟩)]), (13518, .loop ⟨[0, 4, 7, 8, 9, 23, 24], [(25, 0, (.int .i64))]⟩ [(1, ⟨[], [(2, 0, .bool)]⟩), (4, ⟨[0, 7, 8, 9], []⟩)]), (3378, .join [(0, ⟨[0, 3, 4, 7, 8, 9], [(20, 0, .bool)]⟩)])]
noncomputable def e_spec_l13Names : Ent := mkE tysC 76 [e_spec_GoodName, e_spec_l1In] h_spec_l13Names Tryz.f76 [(.vw, (.lst false .str))] true .bool
theorem ok_spec_l13Names : e_spec_l13Names.Ok Tryz.prog := mkE_ok envC (ok_cons ok_spec_GoodName (ok_cons ok_spec_l1In ok_nil)) Tryz.func76 (by decide +kernel) (by kernel_rfl)
def h_spec_GoodHealth : List (Nat × Hint) := [(15, .join [(0, ⟨[], [(2, 0, .bool)]⟩)]), (58, .loop ⟨[1, 7, 8], [(3, 0, (.lst true .str)), (9, 0, (.int .i64))]⟩ [(1, ⟨[2], []⟩), (2, ⟨[1], [(3, 0, (.lst true .str))]⟩)])]
noncomputable def e_spec_GoodHealth : Ent := mkE tysC 42 [e_spec_l13Most, e_spec_l1In, e_spec_l13Names] h_spec_GoodHealth Tryz.f42 [(.vw, (.pair (.int .i64) (.pair (.int .i64) (.pair (.lst false (.pair .str (.pair .bool (.pair (.int .i64) .unit)))) .unit))))] true .bool
theorem ok_spec_GoodHealth : e_spec_GoodHealth.Ok Tryz.prog := mkE_ok envC (ok_cons ok_spec_l13Most (ok_cons ok_spec_l1In (ok_cons ok_spec_l13Names ok_nil))) Tryz.func42 (by decide +kernel) (by kernel_rfl)
def h_spec_IsUp : List (Nat × Hint) := [(58, .loop ⟨[1, 12, 13], [(14, 0, (.int .i64))]⟩ [(1, ⟨[], [(4, 0, .bool), (5, 0, .bool)]⟩), (2, ⟨[], []⟩)])]
noncomputable def e_spec_IsUp : Ent := mkE tysC 110 [e_spec_GoodHealth] h_spec_IsUp Tryz.f110 [(.vw, (.pair (.int .i64) (.pair (.int .i64) (.pair (.lst false (.pair .str (.pair .bool (.pair (.int .i64) .unit)))) .unit)))), (.vw, .str)] false (.pair .bool (.pair .bool .unit))
theorem ok_spec_IsUp : e_spec_IsUp.Ok Tryz.prog := mkE_ok envC (ok_cons ok_spec_GoodHealth ok_nil) Tryz.func110 (by decide +kernel) (by kernel_rfl)
def h_spec_l14Well : List (Nat × Hint) := [(7, .join [(0, ⟨[], [(4, 0, .bool)]⟩)])]
noncomputable def e_spec_l14Well : Ent := mkE tysC 77 [e_spec_IsUp] h_spec_l14Well Tryz.f77 [(.vw, (.pair (.int .i64) (.pair (.int .i64) (.pair (.lst false (.pair .str (.pair .bool (.pair (.int .i64) .unit)))) .unit)))), (.vw, .str)] true .bool
theorem ok_spec_l14Well : e_spec_l14Well.Ok Tryz.prog := mkE_ok envC (ok_cons ok_spec_IsUp ok_nil) Tryz.func77 (by decide +kernel) (by kernel_rfl)
def h_spec_l14Group : List (Nat × Hint) := [(26, .loop ⟨[2, 3, 10, 11], [(12, 0, (.int .i64))]⟩ [(1, ⟨[], [(4, 0, (.int .i64))]⟩), (2, ⟨[2], []⟩)]), (6758, .loop ⟨[2, 3, 6, 10, 11, 12, 17, 18], [(19, 0, (.int .i64))]⟩ [(1, ⟨[], [(4, 0, (.int .i64))]⟩), (4, ⟨[2, 3, 10, 11, 12], []⟩)]), (432537, .join [(0, ⟨[2, 3, 6, 10, 11, 12, 17, 18, 19], [(32, 0, .bool)]⟩)])]
noncomputable def e_spec_l14Group : Ent := mkE tysC 43 [e_spec_l14Groups, e_spec_l14Well] h_spec_l14Group Tryz.f43 [(.vw, (.pair .str (.pair (.lst false (.pair .str (.pair .str (.pair (.int .i64) (.pair (.int .i64) .unit))))) .unit))), (.vw, (.pair (.int .i64) (.pair (.int .i64) (.pair (.lst false (.pair .str (.pair .bool (.pair (.int .i64) .unit)))) .unit))))] true (.int .i64)
theorem ok_spec_l14Group : e_spec_l14Group.Ok Tryz.prog := mkE_ok envC (ok_cons ok_spec_l14Groups (ok_cons ok_spec_l14Well ok_nil)) Tryz.func43 (by decide +kernel) (by kernel_rfl)
def h_spec_GroupOf : List (Nat × Hint) := [(6, .join [(0, ⟨[2, 3], [(13, 0, .bool)]⟩)])]
noncomputable def e_spec_GroupOf : Ent := mkE tysC 19 [e_spec_GoodPolicy, e_spec_GoodHealth, e_spec_l14Group] h_spec_GroupOf Tryz.f19 [(.vw, (.pair .str (.pair (.lst false (.pair .str (.pair .str (.pair (.int .i64) (.pair (.int .i64) .unit))))) .unit))), (.vw, (.pair (.int .i64) (.pair (.int .i64) (.pair (.lst false (.pair .str (.pair .bool (.pair (.int .i64) .unit)))) .unit))))] false (.pair (.int .i64) (.pair .bool .unit))
theorem ok_spec_GroupOf : e_spec_GroupOf.Ok Tryz.prog := mkE_ok envC (ok_cons ok_spec_GoodPolicy (ok_cons ok_spec_GoodHealth (ok_cons ok_spec_l14Group ok_nil))) Tryz.func19 (by decide +kernel) (by kernel_rfl)
def h_impl_Health_mostRow : List (Nat × Hint) := []
noncomputable def e_impl_Health_mostRow : Ent := mkE tysC 79 [] h_impl_Health_mostRow Tryz.f79 [(.vw, (.pair (.int .i64) (.pair (.int .i64) (.pair (.lst false (.pair .str (.pair .bool (.pair (.int .i64) .unit)))) .unit)))), (.vw, (.pair .str (.pair .bool (.pair (.int .i64) .unit))))] true (.int .i64)
theorem ok_impl_Health_mostRow : e_impl_Health_mostRow.Ok Tryz.prog := mkE_ok envC ok_nil Tryz.func79 (by decide +kernel) (by kernel_rfl)
def h_impl_GoodHealth_1 : List (Nat × Hint) := []
noncomputable def e_impl_GoodHealth_1 : Ent := mkE tysC 81 [] h_impl_GoodHealth_1 Tryz.f81 [(.vw, (.pair .str (.pair .bool (.pair (.int .i64) .unit)))), (.vw, (.ptr (.pair .str (.pair .bool (.pair (.int .i64) .unit)))))] true .bool
theorem ok_impl_GoodHealth_1 : e_impl_GoodHealth_1.Ok Tryz.prog := mkE_ok envC ok_nil Tryz.func81 (by decide +kernel) (by kernel_rfl)
def h_slices_IndexFunc_impl_Host_impl_Host__impl_GoodHealth_1 : List (Nat × Hint) := [(26, .loop ⟨[0, 1, 7], [(8, 0, (.int .i64))]⟩ [(1, ⟨[], [(4, 0, (.int .i64))]⟩), (2, ⟨[], []⟩)])]
noncomputable def e_slices_IndexFunc_impl_Host_impl_Host__impl_GoodHealth_1 : Ent := mkE tysC 111 [e_impl_GoodHealth_1] h_slices_IndexFunc_impl_Host_impl_Host__impl_GoodHealth_1 Tryz.f111 [(.vw, (.lst false (.pair .str (.pair .bool (.pair (.int .i64) .unit))))), (.vw, (.fn 81 (.pair (.ptr (.pair .str (.pair .bool (.pair (.int .i64) .unit)))) .unit)))] true (.int .i64)
theorem ok_slices_IndexFunc_impl_Host_impl_Host__impl_GoodHealth_1 : e_slices_IndexFunc_impl_Host_impl_Host__impl_GoodHealth_1.Ok Tryz.prog := mkE_ok envC (ok_cons ok_impl_GoodHealth_1 ok_nil) Tryz.func111 (by decide +kernel) (by kernel_rfl)
def h_slices_ContainsFunc_impl_Host_impl_Host__impl_GoodHealth_1 : List (Nat × Hint) := []
noncomputable def e_slices_ContainsFunc_impl_Host_impl_Host__impl_GoodHealth_1 : Ent := mkE tysC 80 [e_slices_IndexFunc_impl_Host_impl_Host__impl_GoodHealth_1] h_slices_ContainsFunc_impl_Host_impl_Host__impl_GoodHealth_1 Tryz.f80 [(.vw, (.lst false (.pair .str (.pair .bool (.pair (.int .i64) .unit))))), (.vw, (.fn 81 (.pair (.ptr (.pair .str (.pair .bool (.pair (.int .i64) .unit)))) .unit)))] true .bool
theorem ok_slices_ContainsFunc_impl_Host_impl_Host__impl_GoodHealth_1 : e_slices_ContainsFunc_impl_Host_impl_Host__impl_GoodHealth_1.Ok Tryz.prog := mkE_ok envC (ok_cons ok_slices_IndexFunc_impl_Host_impl_Host__impl_GoodHealth_1 ok_nil) Tryz.func80 (by decide +kernel) (by kernel_rfl)
def h_impl_GoodHealth : List (Nat × Hint) := [(58, .loop ⟨[1, 23, 24], [(25, 0, (.int .i64))]⟩ [(1, ⟨[], [(2, 0, .bool)]⟩), (2, ⟨[], []⟩)]), (3737, .join [(0, ⟨[1, 23, 24, 25], [(56, 0, .bool)]⟩)]), (6, .join [(0, ⟨[1], [(21, 0, .bool)]⟩)])]
noncomputable def e_impl_GoodHealth : Ent := mkE tysC 45 [e_impl_within, e_impl_GoodName, e_impl_Health_mostRow, e_slices_ContainsFunc_impl_Host_impl_Host__impl_GoodHealth_1] h_impl_GoodHealth Tryz.f45 [(.vw, (.pair (.int .i64) (.pair (.int .i64) (.pair (.lst false (.pair .str (.pair .bool (.pair (.int .i64) .unit)))) .unit))))] true .bool
theorem ok_impl_GoodHealth : e_impl_GoodHealth.Ok Tryz.prog := mkE_ok envC (ok_cons ok_impl_within (ok_cons ok_impl_GoodName (ok_cons ok_impl_Health_mostRow (ok_cons ok_slices_ContainsFunc_impl_Host_impl_Host__impl_GoodHealth_1 ok_nil)))) Tryz.func45 (by decide +kernel) (by kernel_rfl)
def h_impl_Health_findHost_1 : List (Nat × Hint) := []
noncomputable def e_impl_Health_findHost_1 : Ent := mkE tysC 134 [] h_impl_Health_findHost_1 Tryz.f134 [(.vw, (.pair .str (.pair .bool (.pair (.int .i64) .unit)))), (.vw, (.ptr .str))] true .bool
theorem ok_impl_Health_findHost_1 : e_impl_Health_findHost_1.Ok Tryz.prog := mkE_ok envC ok_nil Tryz.func134 (by decide +kernel) (by kernel_rfl)
def h_slices_IndexFunc_impl_Host_impl_Host__impl_Health_findHost_1 : List (Nat × Hint) := [(26, .loop ⟨[0, 1, 7], [(8, 0, (.int .i64))]⟩ [(1, ⟨[], [(4, 0, (.int .i64))]⟩), (2, ⟨[], []⟩)])]
noncomputable def e_slices_IndexFunc_impl_Host_impl_Host__impl_Health_findHost_1 : Ent := mkE tysC 111 [e_impl_Health_findHost_1] h_slices_IndexFunc_impl_Host_impl_Host__impl_Health_findHost_1 Tryz.f111 [(.vw, (.lst false (.pair .str (.pair .bool (.pair (.int .i64) .unit))))), (.vw, (.fn 134 (.pair (.ptr .str) .unit)))] true (.int .i64)
theorem ok_slices_IndexFunc_impl_Host_impl_Host__impl_Health_findHost_1 : e_slices_IndexFunc_impl_Host_impl_Host__impl_Health_findHost_1.Ok Tryz.prog := mkE_ok envC (ok_cons ok_impl_Health_findHost_1 ok_nil) Tryz.func111 (by decide +kernel) (by kernel_rfl)
def h_impl_Health_findHost : List (Nat × Hint) := []
noncomputable def e_impl_Health_findHost : Ent := mkE tysC 112 [e_slices_IndexFunc_impl_Host_impl_Host__impl_Health_findHost_1] h_impl_Health_findHost Tryz.f112 [(.vw, (.pair (.int .i64) (.pair (.int .i64) (.pair (.lst false (.pair .str (.pair .bool (.pair (.int .i64) .unit)))) .unit)))), (.vw, .str)] true (.int .i64)
theorem ok_impl_Health_findHost : e_impl_Health_findHost.Ok Tryz.prog := mkE_ok envC (ok_cons ok_slices_IndexFunc_impl_Host_impl_Host__impl_Health_findHost_1 ok_nil) Tryz.func112 (by decide +kernel) (by kernel_rfl)
def h_impl_isWell : List (Nat × Hint) := [(7, .join [(0, ⟨[], [(4, 0, .bool)]⟩)])]
noncomputable def e_impl_isWell : Ent := mkE tysC 83 [e_impl_Health_findHost] h_impl_isWell Tryz.f83 [(.vw, (.pair (.int .i64) (.pair (.int .i64) (.pair (.lst false (.pair .str (.pair .bool (.pair (.int .i64) .unit)))) .unit)))), (.vw, (.pair .str (.pair .str (.pair (.int .i64) (.pair (.int .i64) .unit)))))] true .bool
theorem ok_impl_isWell : e_impl_isWell.Ok Tryz.prog := mkE_ok envC (ok_cons ok_impl_Health_findHost ok_nil) Tryz.func83 (by decide +kernel) (by kernel_rfl)
def h_impl_groupOf_1 : List (Nat × Hint) := [(3, .join [(0, ⟨[], [(4, 0, .bool)]⟩)])]
noncomputable def e_impl_groupOf_1 : Ent := mkE tysC 82 [e_impl_isWell] h_impl_groupOf_1 Tryz.f82 [(.vw, (.pair .str (.pair .str (.pair (.int .i64) (.pair (.int .i64) .unit))))), (.vw, (.ptr (.int .i64))), (.vw, (.ptr (.pair (.int .i64) (.pair (.int .i64) (.pair (.lst false (.pair .str (.pair .bool (.pair (.int .i64) .unit)))) .unit)))))] true .bool
theorem ok_impl_groupOf_1 : e_impl_groupOf_1.Ok Tryz.prog := mkE_ok envC (ok_cons ok_impl_isWell ok_nil) Tryz.func82 (by decide +kernel) (by kernel_rfl)
def h_slices_IndexFunc_impl_Target_impl_Target__impl_groupOf_1 : List (Nat × Hint) := [(26, .loop ⟨[0, 1, 7], [(8, 0, (.int .i64))]⟩ [(1, ⟨[], [(4, 0, (.int .i64))]⟩), (2, ⟨[], []⟩)])]
noncomputable def e_slices_IndexFunc_impl_Target_impl_Target__impl_groupOf_1 : Ent := mkE tysC 99 [e_impl_groupOf_1] h_slices_IndexFunc_impl_Target_impl_Target__impl_groupOf_1 Tryz.f99 [(.vw, (.lst false (.pair .str (.pair .str (.pair (.int .i64) (.pair (.int .i64) .unit)))))), (.vw, (.fn 82 (.pair (.ptr (.int .i64)) (.pair (.ptr (.pair (.int .i64) (.pair (.int .i64) (.pair (.lst false (.pair .str (.pair .bool (.pair (.int .i64) .unit)))) .unit)))) .unit))))] true (.int .i64)
theorem ok_slices_IndexFunc_impl_Target_impl_Target__impl_groupOf_1 : e_slices_IndexFunc_impl_Target_impl_Target__impl_groupOf_1.Ok Tryz.prog := mkE_ok envC (ok_cons ok_impl_groupOf_1 ok_nil) Tryz.func99 (by decide +kernel) (by kernel_rfl)
def h_slices_ContainsFunc_impl_Target_impl_Target__impl_groupOf_1 : List (Nat × Hint) := []
noncomputable def e_slices_ContainsFunc_impl_Target_impl_Target__impl_groupOf_1 : Ent := mkE tysC 67 [e_slices_IndexFunc_impl_Target_impl_Target__impl_groupOf_1] h_slices_ContainsFunc_impl_Target_impl_Target__impl_groupOf_1 Tryz.f67 [(.vw, (.lst false (.pair .str (.pair .str (.pair (.int .i64) (.pair (.int .i64) .unit)))))), (.vw, (.fn 82 (.pair (.ptr (.int .i64)) (.pair (.ptr (.pair (.int .i64) (.pair (.int .i64) (.pair (.lst false (.pair .str (.pair .bool (.pair (.int .i64) .unit)))) .unit)))) .unit))))] true .bool
theorem ok_slices_ContainsFunc_impl_Target_impl_Target__impl_groupOf_1 : e_slices_ContainsFunc_impl_Target_impl_Target__impl_groupOf_1.Ok Tryz.prog := mkE_ok envC (ok_cons ok_slices_IndexFunc_impl_Target_impl_Target__impl_groupOf_1 ok_nil) Tryz.func67 (by decide +kernel) (by kernel_rfl)
def h_impl_groupOf : List (Nat × Hint) := [(58, .loop ⟨[2, 3, 5, 10, 11], [(12, 0, (.int .i64))]⟩ [(1, ⟨[], [(4, 0, (.int .i64))]⟩), (2, ⟨[5], []⟩)])]
noncomputable def e_impl_groupOf : Ent := mkE tysC 46 [e_impl_groupsIn, e_slices_ContainsFunc_impl_Target_impl_Target__impl_groupOf_1] h_impl_groupOf Tryz.f46 [(.vw, (.pair .str (.pair (.lst false (.pair .str (.pair .str (.pair (.int .i64) (.pair (.int .i64) .unit))))) .unit))), (.vw, (.pair (.int .i64) (.pair (.int .i64) (.pair (.lst false (.pair .str (.pair .bool (.pair (.int .i64) .unit)))) .unit))))] true (.int .i64)
theorem ok_impl_groupOf : e_impl_groupOf.Ok Tryz.prog := mkE_ok envC (ok_cons ok_impl_groupsIn (ok_cons ok_slices_ContainsFunc_impl_Target_impl_Target__impl_groupOf_1 ok_nil)) Tryz.func46 (by decide +kernel) (by kernel_rfl)
def h_impl_GroupOf : List (Nat × Hint) := [(6, .join [(0, ⟨[2, 3], [(13, 0, .bool)]⟩)])]
noncomputable def e_impl_GroupOf : Ent := mkE tysC 21 [e_impl_GoodPolicy, e_impl_GoodHealth, e_impl_groupOf] h_impl_GroupOf Tryz.f21 [(.vw, (.pair .str (.pair (.lst false (.pair .str (.pair .str (.pair (.int .i64) (.pair (.int .i64) .unit))))) .unit))), (.vw, (.pair (.int .i64) (.pair (.int .i64) (.pair (.lst false (.pair .str (.pair .bool (.pair (.int .i64) .unit)))) .unit))))] false (.pair (.int .i64) (.pair .bool .unit))
theorem ok_impl_GroupOf : e_impl_GroupOf.Ok Tryz.prog := mkE_ok envC (ok_cons ok_impl_GoodPolicy (ok_cons ok_impl_GoodHealth (ok_cons ok_impl_groupOf ok_nil))) Tryz.func21 (by decide +kernel) (by kernel_rfl)
def h_laws_eqHost : List (Nat × Hint) := []
noncomputable def e_laws_eqHost : Ent := mkE tysC 84 [] h_laws_eqHost Tryz.f84 [(.vw, (.pair .str (.pair .bool (.pair (.int .i64) .unit)))), (.vw, (.pair .str (.pair .bool (.pair (.int .i64) .unit))))] true .bool
theorem ok_laws_eqHost : e_laws_eqHost.Ok Tryz.prog := mkE_ok envC ok_nil Tryz.func84 (by decide +kernel) (by kernel_rfl)
def h_laws_eqHostS : List (Nat × Hint) := [(58, .loop ⟨[0, 1], [(5, 0, (.int .i64))]⟩ [(1, ⟨[4], []⟩), (2, ⟨[], []⟩)])]
noncomputable def e_laws_eqHostS : Ent := mkE tysC 47 [e_laws_eqHost] h_laws_eqHostS Tryz.f47 [(.vw, (.lst false (.pair .str (.pair .bool (.pair (.int .i64) .unit))))), (.vw, (.lst false (.pair .str (.pair .bool (.pair (.int .i64) .unit)))))] true .bool
theorem ok_laws_eqHostS : e_laws_eqHostS.Ok Tryz.prog := mkE_ok envC (ok_cons ok_laws_eqHost ok_nil) Tryz.func47 (by decide +kernel) (by kernel_rfl)
def h_laws_eqHealth : List (Nat × Hint) := []
noncomputable def e_laws_eqHealth : Ent := mkE tysC 22 [e_laws_eqHostS] h_laws_eqHealth Tryz.f22 [(.vw, (.pair (.int .i64) (.pair (.int .i64) (.pair (.lst false (.pair .str (.pair .bool (.pair (.int .i64) .unit)))) .unit)))), (.vw, (.pair (.int .i64) (.pair (.int .i64) (.pair (.lst false (.pair .str (.pair .bool (.pair (.int .i64) .unit)))) .unit))))] true .bool
theorem ok_laws_eqHealth : e_laws_eqHealth.Ok Tryz.prog := mkE_ok envC (ok_cons ok_laws_eqHostS ok_nil) Tryz.func22 (by decide +kernel) (by kernel_rfl)
def h_laws_FnExactGroupOf : List (Nat × Hint) := [(4094, .join [(0, ⟨[2, 3, 8, 9], [(47, 0, .bool)]⟩)])]
noncomputable def e_laws_FnExactGroupOf : Ent := mkE tysC 4 [e_laws_szPolicy, e_laws_szHealth, e_laws_toPolicy, e_laws_toHealth, e_spec_GroupOf, e_impl_GroupOf, e_laws_eqPolicy, e_laws_eqHealth] h_laws_FnExactGroupOf Tryz.f4 [(.vw, (.pair .str (.pair (.lst false (.pair .str (.pair .str (.pair (.int .i64) (.pair (.int .i64) .unit))))) .unit))), (.vw, (.pair (.int .i64) (.pair (.int .i64) (.pair (.lst false (.pair .str (.pair .bool (.pair (.int .i64) .unit)))) .unit))))] true .bool
theorem ok_laws_FnExactGroupOf : e_laws_FnExactGroupOf.Ok Tryz.prog := mkE_ok envC (ok_cons ok_laws_szPolicy (ok_cons ok_laws_szHealth (ok_cons ok_laws_toPolicy (ok_cons ok_laws_toHealth (ok_cons ok_spec_GroupOf (ok_cons ok_impl_GroupOf (ok_cons ok_laws_eqPolicy (ok_cons ok_laws_eqHealth ok_nil)))))))) Tryz.func4 (by decide +kernel) (by kernel_rfl)
def h_spec_l14Candidates : List (Nat × Hint) := [(250, .loop ⟨[3, 5, 14, 15], [(6, 0, (.lst true (.int .i64))), (7, 0, (.lst true (.int .i64))), (16, 0, (.int .i64))]⟩ [(2, ⟨[], [(6, 0, (.lst true (.int .i64))), (7, 0, (.lst true (.int .i64)))]⟩)]), (2003, .join [(0, ⟨[3, 5, 14, 15, 16], [(6, 0, (.lst true (.int .i64))), (7, 0, (.lst true (.int .i64)))]⟩)]), (0, .frz [4])]
noncomputable def e_spec_l14Candidates : Ent := mkE tysC 48 [e_spec_l14Group, e_spec_l14Well] h_spec_l14Candidates Tryz.f48 [(.vw, (.pair .str (.pair (.lst false (.pair .str (.pair .str (.pair (.int .i64) (.pair (.int .i64) .unit))))) .unit))), (.vw, (.pair (.int .i64) (.pair (.int .i64) (.pair (.lst false (.pair .str (.pair .bool (.pair (.int .i64) .unit)))) .unit))))] true (.lst true (.int .i64))
theorem ok_spec_l14Candidates : e_spec_l14Candidates.Ok Tryz.prog := mkE_ok envC (ok_cons ok_spec_l14Group (ok_cons ok_spec_l14Well ok_nil)) Tryz.func48 (by decide +kernel) (by kernel_rfl)
def h_spec_CandidatesOf : List (Nat × Hint) := [(6, .join [(0, ⟨[2, 3], [(13, 0, .bool)]⟩)])]
noncomputable def e_spec_CandidatesOf : Ent := mkE tysC 23 [e_spec_GoodPolicy, e_spec_GoodHealth, e_spec_l14Candidates] h_spec_CandidatesOf Tryz.f23 [(.vw, (.pair .str (.pair (.lst false (.pair .str (.pair .str (.pair (.int .i64) (.pair (.int .i64) .unit))))) .unit))), (.vw, (.pair (.int .i64) (.pair (.int .i64) (.pair (.lst false (.pair .str (.pair .bool (.pair (.int .i64) .unit)))) .unit))))] false (.pair (.lst true (.int .i64)) (.pair .bool .unit))
theorem ok_spec_CandidatesOf : e_spec_CandidatesOf.Ok Tryz.prog := mkE_ok envC (ok_cons ok_spec_GoodPolicy (ok_cons ok_spec_GoodHealth (ok_cons ok_spec_l14Candidates ok_nil))) Tryz.func23 (by decide +kernel) (by kernel_rfl)
def h_impl_candidatesOf : List (Nat × Hint) := [(122, .loop ⟨[3, 5, 16, 17], [(6, 0, (.lst true (.int .i64))), (7, 0, (.lst true (.int .i64))), (18, 0, (.int .i64))]⟩ [(2, ⟨[], [(6, 0, (.lst true (.int .i64))), (7, 0, (.lst true (.int .i64)))]⟩)]), (979, .join [(0, ⟨[3, 5, 16, 17, 18], [(6, 0, (.lst true (.int .i64))), (7, 0, (.lst true (.int .i64)))]⟩)]), (0, .frz [4])]
noncomputable def e_impl_candidatesOf : Ent := mkE tysC 49 [e_impl_groupOf, e_impl_isWell] h_impl_candidatesOf Tryz.f49 [(.vw, (.pair .str (.pair (.lst false (.pair .str (.pair .str (.pair (.int .i64) (.pair (.int .i64) .unit))))) .unit))), (.vw, (.pair (.int .i64) (.pair (.int .i64) (.pair (.lst false (.pair .str (.pair .bool (.pair (.int .i64) .unit)))) .unit))))] true (.lst true (.int .i64))
theorem ok_impl_candidatesOf : e_impl_candidatesOf.Ok Tryz.prog := mkE_ok envC (ok_cons ok_impl_groupOf (ok_cons ok_impl_isWell ok_nil)) Tryz.func49 (by decide +kernel) (by kernel_rfl)
def h_impl_CandidatesOf : List (Nat × Hint) := [(6, .join [(0, ⟨[2, 3], [(13, 0, .bool)]⟩)])]
noncomputable def e_impl_CandidatesOf : Ent := mkE tysC 24 [e_impl_GoodPolicy, e_impl_GoodHealth, e_impl_candidatesOf] h_impl_CandidatesOf Tryz.f24 [(.vw, (.pair .str (.pair (.lst false (.pair .str (.pair .str (.pair (.int .i64) (.pair (.int .i64) .unit))))) .unit))), (.vw, (.pair (.int .i64) (.pair (.int .i64) (.pair (.lst false (.pair .str (.pair .bool (.pair (.int .i64) .unit)))) .unit))))] false (.pair (.lst true (.int .i64)) (.pair .bool .unit))
theorem ok_impl_CandidatesOf : e_impl_CandidatesOf.Ok Tryz.prog := mkE_ok envC (ok_cons ok_impl_GoodPolicy (ok_cons ok_impl_GoodHealth (ok_cons ok_impl_candidatesOf ok_nil))) Tryz.func24 (by decide +kernel) (by kernel_rfl)
def h_laws_markHostS : List (Nat × Hint) := [(26, .loop ⟨[], [(0, 0, (.lst true (.pair .str (.pair .bool (.pair (.int .i64) .unit))))), (1, 0, (.int .i64)), (5, 0, (.int .i64))]⟩ [(2, ⟨[], [(0, 0, (.lst true (.pair .str (.pair .bool (.pair (.int .i64) .unit))))), (1, 0, (.int .i64))]⟩)])]
noncomputable def e_laws_markHostS : Ent := mkE tysC 50 [e_laws_markText] h_laws_markHostS Tryz.f50 [(.io, (.lst true (.pair .str (.pair .bool (.pair (.int .i64) .unit))))), (.vw, (.int .i64))] true (.int .i64)
theorem ok_laws_markHostS : e_laws_markHostS.Ok Tryz.prog := mkE_ok envC (ok_cons ok_laws_markText ok_nil) Tryz.func50 (by decide +kernel) (by kernel_rfl)
def h_laws_markHealth : List (Nat × Hint) := []
noncomputable def e_laws_markHealth : Ent := mkE tysC 25 [e_laws_markHostS] h_laws_markHealth Tryz.f25 [(.io, (.pair (.int .i64) (.pair (.int .i64) (.pair (.lst true (.pair .str (.pair .bool (.pair (.int .i64) .unit)))) .unit)))), (.vw, (.int .i64))] true (.int .i64)
theorem ok_laws_markHealth : e_laws_markHealth.Ok Tryz.prog := mkE_ok envC (ok_cons ok_laws_markHostS ok_nil) Tryz.func25 (by decide +kernel) (by kernel_rfl)
def h_laws_FnExactCandidatesOf : List (Nat × Hint) := [(67108862, .join [(0, ⟨[10, 13], [(110, 0, .bool)]⟩)]), (262142, .join [(0, ⟨[2, 3, 6, 7, 10], [(82, 0, .bool)]⟩)]), (4094, .join [(0, ⟨[2, 3, 6, 7, 8, 9, 10, 11], [(53, 0, .bool)]⟩)])]
noncomputable def e_laws_FnExactCandidatesOf : Ent := mkE tysC 5 [e_laws_szPolicy, e_laws_szHealth, e_laws_toPolicy, e_laws_toHealth, e_spec_CandidatesOf, e_impl_CandidatesOf, e_laws_eqIntS, e_laws_eqPolicy, e_laws_eqHealth, e_laws_markPolicy, e_laws_markHealth, e_laws_markIntS, e_laws_heldIntS] h_laws_FnExactCandidatesOf Tryz.f5 [(.vw, (.pair .str (.pair (.lst false (.pair .str (.pair .str (.pair (.int .i64) (.pair (.int .i64) .unit))))) .unit))), (.vw, (.pair (.int .i64) (.pair (.int .i64) (.pair (.lst false (.pair .str (.pair .bool (.pair (.int .i64) .unit)))) .unit))))] true .bool
theorem ok_laws_FnExactCandidatesOf : e_laws_FnExactCandidatesOf.Ok Tryz.prog := mkE_ok envC (ok_cons ok_laws_szPolicy (ok_cons ok_laws_szHealth (ok_cons ok_laws_toPolicy (ok_cons ok_laws_toHealth (ok_cons ok_spec_CandidatesOf (ok_cons ok_impl_CandidatesOf (ok_cons ok_laws_eqIntS (ok_cons ok_laws_eqPolicy (ok_cons ok_laws_eqHealth (ok_cons ok_laws_markPolicy (ok_cons ok_laws_markHealth (ok_cons ok_laws_markIntS (ok_cons ok_laws_heldIntS ok_nil))))))))))))) Tryz.func5 (by decide +kernel) (by kernel_rfl)
def h_spec_l12Total : List (Nat × Hint) := [(58, .loop ⟨[6, 7], [(3, 0, (.int .i64)), (8, 0, (.int .i64))]⟩ [(2, ⟨[], [(3, 0, (.int .i64))]⟩)])]
noncomputable def e_spec_l12Total : Ent := mkE tysC 51 [] h_spec_l12Total Tryz.f51 [(.vw, (.lst false (.int .i64)))] true (.int .i64)
theorem ok_spec_l12Total : e_spec_l12Total.Ok Tryz.prog := mkE_ok envC ok_nil Tryz.func51 (by decide +kernel) (by kernel_rfl)
def h_spec_SharesOf : List (Nat × Hint) := [(122, .loop ⟨[2, 24, 25], [(7, 0, (.lst true (.int .i64))), (26, 0, (.int .i64))]⟩ [(2, ⟨[], [(7, 0, (.lst true (.int .i64)))]⟩)]), (6, .join [(0, ⟨[2, 3], [(17, 0, .bool)]⟩)]), (0, .frz [4])]
noncomputable def e_spec_SharesOf : Ent := mkE tysC 26 [e_spec_GoodPolicy, e_spec_GoodHealth, e_spec_l14Candidates, e_spec_l12Total] h_spec_SharesOf Tryz.f26 [(.vw, (.pair .str (.pair (.lst false (.pair .str (.pair .str (.pair (.int .i64) (.pair (.int .i64) .unit))))) .unit))), (.vw, (.pair (.int .i64) (.pair (.int .i64) (.pair (.lst false (.pair .str (.pair .bool (.pair (.int .i64) .unit)))) .unit))))] false (.pair (.lst true (.int .i64)) (.pair (.int .i64) (.pair .bool .unit)))
theorem ok_spec_SharesOf : e_spec_SharesOf.Ok Tryz.prog := mkE_ok envC (ok_cons ok_spec_GoodPolicy (ok_cons ok_spec_GoodHealth (ok_cons ok_spec_l14Candidates (ok_cons ok_spec_l12Total ok_nil)))) Tryz.func26 (by decide +kernel) (by kernel_rfl)
def h_impl_totalOf : List (Nat × Hint) := [(58, .loop ⟨[6, 7], [(3, 0, (.int .i64)), (8, 0, (.int .i64))]⟩ [(2, ⟨[], [(3, 0, (.int .i64))]⟩)])]
noncomputable def e_impl_totalOf : Ent := mkE tysC 52 [] h_impl_totalOf Tryz.f52 [(.vw, (.lst false (.int .i64)))] true (.int .i64)
theorem ok_impl_totalOf : e_impl_totalOf.Ok Tryz.prog := mkE_ok envC ok_nil Tryz.func52 (by decide +kernel) (by kernel_rfl)
def h_impl_SharesOf : List (Nat × Hint) := [(122, .loop ⟨[2, 24, 25], [(7, 0, (.lst true (.int .i64))), (26, 0, (.int .i64))]⟩ [(2, ⟨[], [(7, 0, (.lst true (.int .i64)))]⟩)]), (6, .join [(0, ⟨[2, 3], [(17, 0, .bool)]⟩)]), (0, .frz [4])]
noncomputable def e_impl_SharesOf : Ent := mkE tysC 27 [e_impl_GoodPolicy, e_impl_GoodHealth, e_impl_candidatesOf, e_impl_totalOf] h_impl_SharesOf Tryz.f27 [(.vw, (.pair .str (.pair (.lst false (.pair .str (.pair .str (.pair (.int .i64) (.pair (.int .i64) .unit))))) .unit))), (.vw, (.pair (.int .i64) (.pair (.int .i64) (.pair (.lst false (.pair .str (.pair .bool (.pair (.int .i64) .unit)))) .unit))))] false (.pair (.lst true (.int .i64)) (.pair (.int .i64) (.pair .bool .unit)))
theorem ok_impl_SharesOf : e_impl_SharesOf.Ok Tryz.prog := mkE_ok envC (ok_cons ok_impl_GoodPolicy (ok_cons ok_impl_GoodHealth (ok_cons ok_impl_candidatesOf (ok_cons ok_impl_totalOf ok_nil)))) Tryz.func27 (by decide +kernel) (by kernel_rfl)
def h_laws_FnExactSharesOf : List (Nat × Hint) := [(67108862, .join [(0, ⟨[11, 15], [(131, 0, .bool)]⟩)]), (262142, .join [(0, ⟨[2, 3, 6, 7, 8, 11], [(97, 0, .bool)]⟩)]), (4094, .join [(0, ⟨[2, 3, 6, 7, 8, 9, 10, 11, 12, 13], [(63, 0, .bool)]⟩)])]
noncomputable def e_laws_FnExactSharesOf : Ent := mkE tysC 6 [e_laws_szPolicy, e_laws_szHealth, e_laws_toPolicy, e_laws_toHealth, e_spec_SharesOf, e_impl_SharesOf, e_laws_eqIntS, e_laws_eqPolicy, e_laws_eqHealth, e_laws_markPolicy, e_laws_markHealth, e_laws_markIntS, e_laws_heldIntS] h_laws_FnExactSharesOf Tryz.f6 [(.vw, (.pair .str (.pair (.lst false (.pair .str (.pair .str (.pair (.int .i64) (.pair (.int .i64) .unit))))) .unit))), (.vw, (.pair (.int .i64) (.pair (.int .i64) (.pair (.lst false (.pair .str (.pair .bool (.pair (.int .i64) .unit)))) .unit))))] true .bool
theorem ok_laws_FnExactSharesOf : e_laws_FnExactSharesOf.Ok Tryz.prog := mkE_ok envC (ok_cons ok_laws_szPolicy (ok_cons ok_laws_szHealth (ok_cons ok_laws_toPolicy (ok_cons ok_laws_toHealth (ok_cons ok_spec_SharesOf (ok_cons ok_impl_SharesOf (ok_cons ok_laws_eqIntS (ok_cons ok_laws_eqPolicy (ok_cons ok_laws_eqHealth (ok_cons ok_laws_markPolicy (ok_cons ok_laws_markHealth (ok_cons ok_laws_markIntS (ok_cons ok_laws_heldIntS ok_nil))))))))))))) Tryz.func6 (by decide +kernel) (by kernel_rfl)
def h_spec_l9Counter : List (Nat × Hint) := []
noncomputable def e_spec_l9Counter : Ent := mkE tysC 53 [e_spec_l1In] h_spec_l9Counter Tryz.f53 [(.vw, (.int .i64))] true .bool
theorem ok_spec_l9Counter : e_spec_l9Counter.Ok Tryz.prog := mkE_ok envC (ok_cons ok_spec_l1In ok_nil) Tryz.func53 (by decide +kernel) (by kernel_rfl)
def h_spec_GoodWeights : List (Nat × Hint) := [(15, .join [(0, ⟨[], [(2, 0, .bool)]⟩)]), (58, .loop ⟨[0, 6, 7], [(3, 0, (.int .i64)), (8, 0, (.int .i64))]⟩ [(1, ⟨[2], []⟩), (2, ⟨[0], [(3, 0, (.int .i64))]⟩)])]
noncomputable def e_spec_GoodWeights : Ent := mkE tysC 85 [e_spec_l1In] h_spec_GoodWeights Tryz.f85 [(.vw, (.lst false (.int .i64)))] true .bool
theorem ok_spec_GoodWeights : e_spec_GoodWeights.Ok Tryz.prog := mkE_ok envC (ok_cons ok_spec_l1In ok_nil) Tryz.func85 (by decide +kernel) (by kernel_rfl)
def h_spec_AliasOf : List (Nat × Hint) := [(1022, .loop ⟨[5], [(6, 0, (.lst true (.int .i64))), (7, 0, (.lst true .bool)), (8, 0, (.lst true (.pair (.int .i64) (.pair (.int .i64) .unit))))]⟩ [(1, ⟨[], [(2, 0, (.lst true (.pair (.int .i64) (.pair (.int .i64) .unit)))), (3, 0, .bool)]⟩)]), (65422, .join [(0, ⟨[5, 6, 7, 8, 11, 12], [(84, 0, .bool)]⟩)]), (130842, .loop ⟨[5, 6, 7, 8, 48], [(11, 0, (.int .i64)), (12, 0, (.int .i64)), (49, 0, (.int .i64))]⟩ [(6, ⟨[5, 6, 7, 8], [(11, 0, (.int .i64)), (12, 0, (.int .i64))]⟩)]), (1046739, .join [(0, ⟨[5, 6, 7, 8, 48, 49], [(11, 0, (.int .i64)), (12, 0, (.int .i64))]⟩)]), (33495655, .join [(0, ⟨[5, 6, 7, 8, 11, 12, 13, 48, 49], [(76, 0, .bool)]⟩)]), (16747827, .join [(0, ⟨[5, 6, 7, 8, 12, 13, 48, 49], [(11, 0, (.int .i64))]⟩)]), (33495654, .join [(0, ⟨[5, 6, 7, 8, 11, 12, 13, 48, 49], [(65, 0, .bool)]⟩)]), (2042, .loop ⟨[4, 5, 7, 27, 28], [(6, 0, (.lst true (.int .i64))), (8, 0, (.lst true (.pair (.int .i64) (.pair (.int .i64) .unit)))), (29, 0, (.int .i64))]⟩ [(2, ⟨[5, 7], [(6, 0, (.lst true (.int .i64))), (8, 0, (.lst true (.pair (.int .i64) (.pair (.int .i64) .unit))))]⟩)])]
noncomputable def e_spec_AliasOf : Ent := mkE tysC 54 [e_spec_GoodWeights, e_spec_l12Total] h_spec_AliasOf Tryz.f54 [(.vw, (.lst false (.int .i64)))] false (.pair (.lst true (.pair (.int .i64) (.pair (.int .i64) .unit))) (.pair .bool .unit))
theorem ok_spec_AliasOf : e_spec_AliasOf.Ok Tryz.prog := mkE_ok envC (ok_cons ok_spec_GoodWeights (ok_cons ok_spec_l12Total ok_nil)) Tryz.func54 (by decide +kernel) (by kernel_rfl)
def h_spec_GoodAlias : List (Nat × Hint) := [(26, .loop ⟨[0, 5, 6], [(7, 0, (.int .i64))]⟩ [(1, ⟨[2], []⟩), (2, ⟨[0], []⟩)]), (1689, .join [(0, ⟨[0, 5, 6, 7], [(22, 0, .bool)]⟩)])]
noncomputable def e_spec_GoodAlias : Ent := mkE tysC 113 [e_spec_l1In] h_spec_GoodAlias Tryz.f113 [(.vw, (.lst false (.pair (.int .i64) (.pair (.int .i64) .unit))))] true .bool
theorem ok_spec_GoodAlias : e_spec_GoodAlias.Ok Tryz.prog := mkE_ok envC (ok_cons ok_spec_l1In ok_nil) Tryz.func113 (by decide +kernel) (by kernel_rfl)
def h_spec_l12Fits : List (Nat × Hint) := [(7, .join [(0, ⟨[], [(4, 0, .bool)]⟩)]), (26, .loop ⟨[0, 1, 7, 8], [(9, 0, (.int .i64))]⟩ [(1, ⟨[4], []⟩), (2, ⟨[0, 1], []⟩)])]
noncomputable def e_spec_l12Fits : Ent := mkE tysC 86 [e_spec_GoodAlias, e_spec_l1In] h_spec_l12Fits Tryz.f86 [(.vw, (.lst false (.pair (.int .i64) (.pair (.int .i64) .unit)))), (.vw, (.int .i64))] true .bool
theorem ok_spec_l12Fits : e_spec_l12Fits.Ok Tryz.prog := mkE_ok envC (ok_cons ok_spec_GoodAlias (ok_cons ok_spec_l1In ok_nil)) Tryz.func86 (by decide +kernel) (by kernel_rfl)
def h_spec_PickBy : List (Nat × Hint) := [(6, .join [(0, ⟨[0, 1, 2], [(22, 0, .bool)]⟩)])]
noncomputable def e_spec_PickBy : Ent := mkE tysC 55 [e_spec_l12Fits, e_spec_l1In] h_spec_PickBy Tryz.f55 [(.vw, (.lst false (.pair (.int .i64) (.pair (.int .i64) .unit)))), (.vw, (.int .i64)), (.vw, (.int .i64))] false (.pair (.int .i64) (.pair .bool .unit))
theorem ok_spec_PickBy : e_spec_PickBy.Ok Tryz.prog := mkE_ok envC (ok_cons ok_spec_l12Fits (ok_cons ok_spec_l1In ok_nil)) Tryz.func55 (by decide +kernel) (by kernel_rfl)
def h_spec_ChooseTarget : List (Nat × Hint) := [(250, .loop ⟨[2, 3, 8, 33, 34], [(9, 0, (.lst true (.int .i64))), (35, 0, (.int .i64))]⟩ [(2, ⟨[2, 8], [(9, 0, (.lst true (.int .i64)))]⟩)]), (6, .join [(0, ⟨[2, 3, 4], [(29, 0, .bool)]⟩)])]
noncomputable def e_spec_ChooseTarget : Ent := mkE tysC 28 [e_spec_GoodPolicy, e_spec_GoodHealth, e_spec_l9Counter, e_spec_l14Candidates, e_spec_AliasOf, e_spec_l12Total, e_spec_PickBy] h_spec_ChooseTarget Tryz.f28 [(.vw, (.pair .str (.pair (.lst false (.pair .str (.pair .str (.pair (.int .i64) (.pair (.int .i64) .unit))))) .unit))), (.vw, (.pair (.int .i64) (.pair (.int .i64) (.pair (.lst false (.pair .str (.pair .bool (.pair (.int .i64) .unit)))) .unit)))), (.vw, (.int .i64))] false (.pair (.int .i64) (.pair .bool .unit))
theorem ok_spec_ChooseTarget : e_spec_ChooseTarget.Ok Tryz.prog := mkE_ok envC (ok_cons ok_spec_GoodPolicy (ok_cons ok_spec_GoodHealth (ok_cons ok_spec_l9Counter (ok_cons ok_spec_l14Candidates (ok_cons ok_spec_AliasOf (ok_cons ok_spec_l12Total (ok_cons ok_spec_PickBy ok_nil))))))) Tryz.func28 (by decide +kernel) (by kernel_rfl)
def h_impl_isCounter : List (Nat × Hint) := []
noncomputable def e_impl_isCounter : Ent := mkE tysC 56 [e_impl_within] h_impl_isCounter Tryz.f56 [(.vw, (.int .i64))] true .bool
theorem ok_impl_isCounter : e_impl_isCounter.Ok Tryz.prog := mkE_ok envC (ok_cons ok_impl_within ok_nil) Tryz.func56 (by decide +kernel) (by kernel_rfl)
def h_impl_aliasOf_1 : List (Nat × Hint) := []
noncomputable def e_impl_aliasOf_1 : Ent := mkE tysC 88 [] h_impl_aliasOf_1 Tryz.f88 [(.vw, (.int .i64)), (.vw, (.ptr (.int .i64)))] true .bool
theorem ok_impl_aliasOf_1 : e_impl_aliasOf_1.Ok Tryz.prog := mkE_ok envC ok_nil Tryz.func88 (by decide +kernel) (by kernel_rfl)
def h_slices_IndexFunc_int_int__impl_aliasOf_1 : List (Nat × Hint) := [(26, .loop ⟨[0, 1, 7], [(8, 0, (.int .i64))]⟩ [(1, ⟨[], [(4, 0, (.int .i64))]⟩), (2, ⟨[], []⟩)])]
noncomputable def e_slices_IndexFunc_int_int__impl_aliasOf_1 : Ent := mkE tysC 87 [e_impl_aliasOf_1] h_slices_IndexFunc_int_int__impl_aliasOf_1 Tryz.f87 [(.vw, (.lst false (.int .i64))), (.vw, (.fn 88 (.pair (.ptr (.int .i64)) .unit)))] true (.int .i64)
theorem ok_slices_IndexFunc_int_int__impl_aliasOf_1 : e_slices_IndexFunc_int_int__impl_aliasOf_1.Ok Tryz.prog := mkE_ok envC (ok_cons ok_impl_aliasOf_1 ok_nil) Tryz.func87 (by decide +kernel) (by kernel_rfl)
def h_impl_aliasOf : List (Nat × Hint) := [(254, .loop ⟨[3], [(4, 0, (.lst true (.int .i64))), (5, 0, (.lst true (.pair (.int .i64) (.pair (.int .i64) .unit)))), (8, 0, (.lst true .bool))]⟩ [(1, ⟨[], [(2, 0, (.lst true (.pair (.int .i64) (.pair (.int .i64) .unit))))]⟩)]), (16266, .loop ⟨[3, 4, 5, 8, 9, 41, 42], [(43, 0, (.int .i64))]⟩ [(6, ⟨[3, 4, 5, 8], [(9, 0, (.int .i64))]⟩)]), (1041049, .join [(0, ⟨[3, 4, 5, 8, 9, 10, 41, 42, 43], [(57, 0, .bool)]⟩)]), (250, .loop ⟨[0, 3, 17, 18], [(4, 0, (.lst true (.int .i64))), (5, 0, (.lst true (.pair (.int .i64) (.pair (.int .i64) .unit)))), (19, 0, (.int .i64))]⟩ [(2, ⟨[0, 3], [(4, 0, (.lst true (.int .i64))), (5, 0, (.lst true (.pair (.int .i64) (.pair (.int .i64) .unit))))]⟩)])]
noncomputable def e_impl_aliasOf : Ent := mkE tysC 58 [e_impl_totalOf, e_slices_IndexFunc_int_int__impl_aliasOf_1] h_impl_aliasOf Tryz.f58 [(.vw, (.lst false (.int .i64)))] true (.lst true (.pair (.int .i64) (.pair (.int .i64) .unit)))
theorem ok_impl_aliasOf : e_impl_aliasOf.Ok Tryz.prog := mkE_ok envC (ok_cons ok_impl_totalOf (ok_cons ok_slices_IndexFunc_int_int__impl_aliasOf_1 ok_nil)) Tryz.func58 (by decide +kernel) (by kernel_rfl)
def h_impl_pickBy : List (Nat × Hint) := []
noncomputable def e_impl_pickBy : Ent := mkE tysC 57 [] h_impl_pickBy Tryz.f57 [(.vw, (.lst false (.pair (.int .i64) (.pair (.int .i64) .unit)))), (.vw, (.int .i64)), (.vw, (.int .i64))] true (.int .i64)
theorem ok_impl_pickBy : e_impl_pickBy.Ok Tryz.prog := mkE_ok envC ok_nil Tryz.func57 (by decide +kernel) (by kernel_rfl)
def h_impl_ChooseTarget : List (Nat × Hint) := [(250, .loop ⟨[2, 3, 8, 30, 31], [(9, 0, (.lst true (.int .i64))), (32, 0, (.int .i64))]⟩ [(2, ⟨[2, 8], [(9, 0, (.lst true (.int .i64)))]⟩)]), (6, .join [(0, ⟨[2, 3, 4], [(25, 0, .bool)]⟩)])]
noncomputable def e_impl_ChooseTarget : Ent := mkE tysC 29 [e_impl_GoodPolicy, e_impl_GoodHealth, e_impl_isCounter, e_impl_candidatesOf, e_impl_totalOf, e_impl_aliasOf, e_impl_pickBy] h_impl_ChooseTarget Tryz.f29 [(.vw, (.pair .str (.pair (.lst false (.pair .str (.pair .str (.pair (.int .i64) (.pair (.int .i64) .unit))))) .unit))), (.vw, (.pair (.int .i64) (.pair (.int .i64) (.pair (.lst false (.pair .str (.pair .bool (.pair (.int .i64) .unit)))) .unit)))), (.vw, (.int .i64))] false (.pair (.int .i64) (.pair .bool .unit))
theorem ok_impl_ChooseTarget : e_impl_ChooseTarget.Ok Tryz.prog := mkE_ok envC (ok_cons ok_impl_GoodPolicy (ok_cons ok_impl_GoodHealth (ok_cons ok_impl_isCounter (ok_cons ok_impl_candidatesOf (ok_cons ok_impl_totalOf (ok_cons ok_impl_aliasOf (ok_cons ok_impl_pickBy ok_nil))))))) Tryz.func29 (by decide +kernel) (by kernel_rfl)
def h_laws_FnExactChooseTarget : List (Nat × Hint) := [(4094, .join [(0, ⟨[3, 4, 10, 11], [(51, 0, .bool)]⟩)])]
noncomputable def e_laws_FnExactChooseTarget : Ent := mkE tysC 7 [e_laws_szPolicy, e_laws_szHealth, e_laws_toPolicy, e_laws_toHealth, e_spec_ChooseTarget, e_impl_ChooseTarget, e_laws_eqPolicy, e_laws_eqHealth] h_laws_FnExactChooseTarget Tryz.f7 [(.vw, (.pair .str (.pair (.lst false (.pair .str (.pair .str (.pair (.int .i64) (.pair (.int .i64) .unit))))) .unit))), (.vw, (.pair (.int .i64) (.pair (.int .i64) (.pair (.lst false (.pair .str (.pair .bool (.pair (.int .i64) .unit)))) .unit)))), (.vw, (.int .i64))] true .bool
theorem ok_laws_FnExactChooseTarget : e_laws_FnExactChooseTarget.Ok Tryz.prog := mkE_ok envC (ok_cons ok_laws_szPolicy (ok_cons ok_laws_szHealth (ok_cons ok_laws_toPolicy (ok_cons ok_laws_toHealth (ok_cons ok_spec_ChooseTarget (ok_cons ok_impl_ChooseTarget (ok_cons ok_laws_eqPolicy (ok_cons ok_laws_eqHealth ok_nil)))))))) Tryz.func7 (by decide +kernel) (by kernel_rfl)
def h_spec_AnswerOf : List (Nat × Hint) := []
noncomputable def e_spec_AnswerOf : Ent := mkE tysC 30 [e_spec_ChooseTarget] h_spec_AnswerOf Tryz.f30 [(.vw, (.pair .str (.pair (.lst false (.pair .str (.pair .str (.pair (.int .i64) (.pair (.int .i64) .unit))))) .unit))), (.vw, (.pair (.int .i64) (.pair (.int .i64) (.pair (.lst false (.pair .str (.pair .bool (.pair (.int .i64) .unit)))) .unit)))), (.vw, (.int .i64))] false (.pair tyR (.pair .bool .unit))
theorem ok_spec_AnswerOf : e_spec_AnswerOf.Ok Tryz.prog := mkE_ok envC (ok_cons ok_spec_ChooseTarget ok_nil) Tryz.func30 (by decide +kernel) (by kernel_rfl)
def h_impl_AnswerOf : List (Nat × Hint) := []
noncomputable def e_impl_AnswerOf : Ent := mkE tysC 31 [e_impl_ChooseTarget] h_impl_AnswerOf Tryz.f31 [(.vw, (.pair .str (.pair (.lst false (.pair .str (.pair .str (.pair (.int .i64) (.pair (.int .i64) .unit))))) .unit))), (.vw, (.pair (.int .i64) (.pair (.int .i64) (.pair (.lst false (.pair .str (.pair .bool (.pair (.int .i64) .unit)))) .unit)))), (.vw, (.int .i64))] false (.pair tyR (.pair .bool .unit))
theorem ok_impl_AnswerOf : e_impl_AnswerOf.Ok Tryz.prog := mkE_ok envC (ok_cons ok_impl_ChooseTarget ok_nil) Tryz.func31 (by decide +kernel) (by kernel_rfl)
def h_laws_eqRecord : List (Nat × Hint) := []
noncomputable def e_laws_eqRecord : Ent := mkE tysC 32 [] h_laws_eqRecord Tryz.f32 [(.vw, tyR), (.vw, tyR)] true .bool
theorem ok_laws_eqRecord : e_laws_eqRecord.Ok Tryz.prog := mkE_ok envC ok_nil Tryz.func32 (by decide +kernel) (by kernel_rfl)
def h_laws_FnExactAnswerOf : List (Nat × Hint) := [(4094, .join [(0, ⟨[3, 4, 10, 11], [(52, 0, .bool)]⟩)])]
noncomputable def e_laws_FnExactAnswerOf : Ent := mkE tysC 8 [e_laws_szPolicy, e_laws_szHealth, e_laws_toPolicy, e_laws_toHealth, e_spec_AnswerOf, e_impl_AnswerOf, e_laws_eqRecord, e_laws_eqPolicy, e_laws_eqHealth] h_laws_FnExactAnswerOf Tryz.f8 [(.vw, (.pair .str (.pair (.lst false (.pair .str (.pair .str (.pair (.int .i64) (.pair (.int .i64) .unit))))) .unit))), (.vw, (.pair (.int .i64) (.pair (.int .i64) (.pair (.lst false (.pair .str (.pair .bool (.pair (.int .i64) .unit)))) .unit)))), (.vw, (.int .i64))] true .bool
theorem ok_laws_FnExactAnswerOf : e_laws_FnExactAnswerOf.Ok Tryz.prog := mkE_ok envC (ok_cons ok_laws_szPolicy (ok_cons ok_laws_szHealth (ok_cons ok_laws_toPolicy (ok_cons ok_laws_toHealth (ok_cons ok_spec_AnswerOf (ok_cons ok_impl_AnswerOf (ok_cons ok_laws_eqRecord (ok_cons ok_laws_eqPolicy (ok_cons ok_laws_eqHealth ok_nil))))))))) Tryz.func8 (by decide +kernel) (by kernel_rfl)
end Go.Proofs.YtbpfkhhacafcpaaGreatDoor
