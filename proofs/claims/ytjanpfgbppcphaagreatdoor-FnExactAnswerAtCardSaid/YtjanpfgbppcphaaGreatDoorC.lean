/- The functions that the law reaches, each as a program of expressions. -/
import Derived.Test.YtjanpfgbppcphaaGreatDoorLb1
import Derived.Test.YtjanpfgbppcphaaGreatDoorProg
import Derived.KernelRfl
import Derived.Test.YtjanpfgbppcphaaGreatDoorLays
set_option linter.unusedSectionVars false
set_option linter.unusedVariables false
set_option linter.unusedSimpArgs false
namespace Go.Proofs.YtjanpfgbppcphaaGreatDoor
open Go Go.Own
set_option maxRecDepth 100000
instance glbI : Glb := Glb.at [(1, isInt .i64), (6, isErr), (7, isErr), (0, isArr (Lib.pow10Tab.map fun z => Value.int .u64 z).toArray)]
theorem glbMaxLen : ∀ h V, Glb.ok h V → ∃ m arr ty fz, h[Tryz.l146_ren.g 1]? = some (.cells arr ty fz) ∧ arr[0]? = some (.int .i64 m) :=
 fun _ _ h => isInt_get (h (1, isInt .i64) (by simp)).2
theorem glbSyn : ∀ h V, Glb.ok h V → ∃ ev arr ty fz, h[Tryz.l172_ren.g 15]? = some (.cells arr ty fz) ∧ arr[0]? = some ev ∧ (ev = .nilIface ∨ ∃ te pe, ev = .iface te pe) :=
 fun _ _ h => isErr_get (h (6, isErr) (by simp)).2
theorem glbRng : ∀ h V, Glb.ok h V → ∃ ev arr ty fz, h[Tryz.l172_ren.g 16]? = some (.cells arr ty fz) ∧ arr[0]? = some ev ∧ (ev = .nilIface ∨ ∃ te pe, ev = .iface te pe) :=
 fun _ _ h => isErr_get (h (7, isErr) (by simp)).2
theorem glbPow : ∀ h V, Glb.ok h V → ∃ ty fz, h[0]? = some (.cells (Lib.pow10Tab.map fun z => Value.int .u64 z).toArray ty fz) :=
 fun _ _ h => isArr_get (h (0, isArr (Lib.pow10Tab.map fun z => Value.int .u64 z).toArray) (by simp)).2
abbrev tyR : T := .pair .str (.pair (.int .i64) (.pair (.int .i64) (.pair .str .unit)))
abbrev tyD : T := .pair (.int .i64) (.pair (.int .i64) (.pair (.int .i64) (.pair (.int .i64) .unit)))
abbrev tyRf : T := .lst false tyR
abbrev tyRt : T := .lst true tyR
abbrev tyZf : T := .pair .str (.pair (.int .i64) (.pair tyRf .unit))
abbrev tyZt : T := .pair .str (.pair (.int .i64) (.pair tyRt .unit))
def tysC : List (TypeId × T × Nat) := [(3, (.int .i64), 0), (4, .bool, 0), (5, (.int .u8), 0), (9, .str, 0), (22, tyRt, 48), (24, tyZt, 0), (25, (.lst true tyD), 32), (27, (.pair tyZt (.pair (.lst true tyD) (.pair (.int .i64) .unit))), 0), (28, (.lst true (.pair (.int .i64) (.pair (.int .i64) (.pair tyRt (.pair tyRt .unit))))), 64), (30, (.pair .str (.pair (.int .i64) (.pair (.lst true (.pair (.int .i64) (.pair (.int .i64) (.pair tyRt (.pair tyRt .unit))))) .unit))), 0), (31, (.lst true (.pair tyZt (.pair tyZt .unit))), 96), (32, (.lst true (.pair (.int .i64) (.pair .bool (.pair tyZt (.pair (.pair (.int .i64) (.pair (.int .i64) (.pair tyRt (.pair tyRt .unit)))) .unit))))), 128), (34, (.pair (.pair tyZt (.pair (.lst true tyD) (.pair (.int .i64) .unit))) (.pair (.pair .str (.pair (.int .i64) (.pair (.lst true (.pair (.int .i64) (.pair (.int .i64) (.pair tyRt (.pair tyRt .unit))))) .unit))) (.pair (.lst true (.pair tyZt (.pair tyZt .unit))) (.pair (.lst true (.pair (.int .i64) (.pair .bool (.pair tyZt (.pair (.pair (.int .i64) (.pair (.int .i64) (.pair tyRt (.pair tyRt .unit)))) .unit))))) .unit)))), 0), (37, tyRt, 48), (39, tyZt, 0), (40, (.lst true tyD), 32), (42, (.pair tyZt (.pair (.lst true tyD) (.pair (.int .i64) .unit))), 0), (43, (.lst true (.pair (.int .i64) (.pair (.int .i64) (.pair tyRt (.pair tyRt .unit))))), 64), (45, (.pair .str (.pair (.int .i64) (.pair (.lst true (.pair (.int .i64) (.pair (.int .i64) (.pair tyRt (.pair tyRt .unit))))) .unit))), 0), (46, (.lst true (.pair tyZt (.pair tyZt .unit))), 96), (47, (.lst true (.pair (.int .i64) (.pair .bool (.pair tyZt (.pair (.pair (.int .i64) (.pair (.int .i64) (.pair tyRt (.pair tyRt .unit)))) .unit))))), 128), (49, (.pair (.pair tyZt (.pair (.lst true tyD) (.pair (.int .i64) .unit))) (.pair (.pair .str (.pair (.int .i64) (.pair (.lst true (.pair (.int .i64) (.pair (.int .i64) (.pair tyRt (.pair tyRt .unit))))) .unit))) (.pair (.lst true (.pair tyZt (.pair tyZt .unit))) (.pair (.lst true (.pair (.int .i64) (.pair .bool (.pair tyZt (.pair (.pair (.int .i64) (.pair (.int .i64) (.pair tyRt (.pair tyRt .unit)))) .unit))))) .unit)))), 0), (57, (.pair (.int .i64) (.pair .str (.pair tyRt (.pair tyRt .unit)))), 0), (73, (.pair tyZt (.pair tyZt .unit)), 0), (76, (.pair (.int .i64) (.pair (.int .i64) (.pair tyRt (.pair tyRt .unit)))), 0), (78, (.pair (.int .i64) (.pair .bool (.pair tyZt (.pair (.pair (.int .i64) (.pair (.int .i64) (.pair tyRt (.pair tyRt .unit)))) .unit)))), 0), (108, (.pair tyZt (.pair tyZt .unit)), 0), (111, (.pair (.int .i64) (.pair (.int .i64) (.pair tyRt (.pair tyRt .unit)))), 0), (113, (.pair (.int .i64) (.pair .bool (.pair tyZt (.pair (.pair (.int .i64) (.pair (.int .i64) (.pair tyRt (.pair tyRt .unit)))) .unit)))), 0), (115, tyD, 0), (121, tyR, 0), (146, (.lst true .str), 16), (153, tyD, 0), (169, (.lst true (.int .u8)), 1), (171, tyR, 0), (185, (.lst true (.int .i64)), 8), (200, (.int .u64), 0), (231, .err, 0)]
theorem envC : ∀ sig n fx fr, EnvOk Tryz.prog ⟨tyOf tysC, ebOf tysC, sig, n, fx, fr⟩ := by
 refine EnvOk.ofL (fun sig n fx fr t ht => ?_) (by kernel_rfl)
 simp only [tysC, List.map_cons, List.map_nil, List.mem_cons] at ht
 rcases ht with rfl | ht
 ·exact ⟨Tryz.underlying3, rfl, by kernel_rfl, by kernel_rfl⟩
 rcases ht with rfl | ht
 ·exact ⟨Tryz.underlying4, rfl, by kernel_rfl, by kernel_rfl⟩
 rcases ht with rfl | ht
 ·exact ⟨Tryz.underlying5, rfl, by kernel_rfl, by kernel_rfl⟩
 rcases ht with rfl | ht
 ·exact ⟨Tryz.underlying9, rfl, by kernel_rfl, by kernel_rfl⟩
 rcases ht with rfl | ht
 ·exact ⟨⟨rfl, _, Tryz.underlying22, rfl, rfl, by kernel_rfl⟩, rfl, by kernel_rfl, by kernel_rfl⟩
 rcases ht with rfl | ht
 ·exact ⟨⟨_, Tryz.underlying24, rfl, rfl, rfl, rfl, rfl, rfl, rfl, rfl, rfl, trivial⟩, rfl, by kernel_rfl, by kernel_rfl⟩
 rcases ht with rfl | ht
 ·exact ⟨⟨rfl, _, Tryz.underlying25, rfl, rfl, by kernel_rfl⟩, rfl, by kernel_rfl, by kernel_rfl⟩
 rcases ht with rfl | ht
 ·exact ⟨⟨_, Tryz.underlying27, rfl, rfl, rfl, rfl, rfl, rfl, rfl, rfl, rfl, trivial⟩, rfl, by kernel_rfl, by kernel_rfl⟩
 rcases ht with rfl | ht
 ·exact ⟨⟨rfl, _, Tryz.underlying28, rfl, rfl, by kernel_rfl⟩, rfl, by kernel_rfl, by kernel_rfl⟩
 rcases ht with rfl | ht
 ·exact ⟨⟨_, Tryz.underlying30, rfl, rfl, rfl, rfl, rfl, rfl, rfl, rfl, rfl, trivial⟩, rfl, by kernel_rfl, by kernel_rfl⟩
 rcases ht with rfl | ht
 ·exact ⟨⟨rfl, _, Tryz.underlying31, rfl, rfl, by kernel_rfl⟩, rfl, by kernel_rfl, by kernel_rfl⟩
 rcases ht with rfl | ht
 ·exact ⟨⟨rfl, _, Tryz.underlying32, rfl, rfl, by kernel_rfl⟩, rfl, by kernel_rfl, by kernel_rfl⟩
 rcases ht with rfl | ht
 ·exact ⟨⟨_, Tryz.underlying34, rfl, rfl, rfl, rfl, rfl, rfl, rfl, rfl, rfl, rfl, rfl, rfl, trivial⟩, rfl, by kernel_rfl, by kernel_rfl⟩
 rcases ht with rfl | ht
 ·exact ⟨⟨rfl, _, Tryz.underlying37, rfl, rfl, by kernel_rfl⟩, rfl, by kernel_rfl, by kernel_rfl⟩
 rcases ht with rfl | ht
 ·exact ⟨⟨_, Tryz.underlying39, rfl, rfl, rfl, rfl, rfl, rfl, rfl, rfl, rfl, trivial⟩, rfl, by kernel_rfl, by kernel_rfl⟩
 rcases ht with rfl | ht
 ·exact ⟨⟨rfl, _, Tryz.underlying40, rfl, rfl, by kernel_rfl⟩, rfl, by kernel_rfl, by kernel_rfl⟩
 rcases ht with rfl | ht
 ·exact ⟨⟨_, Tryz.underlying42, rfl, rfl, rfl, rfl, rfl, rfl, rfl, rfl, rfl, trivial⟩, rfl, by kernel_rfl, by kernel_rfl⟩
 rcases ht with rfl | ht
 ·exact ⟨⟨rfl, _, Tryz.underlying43, rfl, rfl, by kernel_rfl⟩, rfl, by kernel_rfl, by kernel_rfl⟩
 rcases ht with rfl | ht
 ·exact ⟨⟨_, Tryz.underlying45, rfl, rfl, rfl, rfl, rfl, rfl, rfl, rfl, rfl, trivial⟩, rfl, by kernel_rfl, by kernel_rfl⟩
 rcases ht with rfl | ht
 ·exact ⟨⟨rfl, _, Tryz.underlying46, rfl, rfl, by kernel_rfl⟩, rfl, by kernel_rfl, by kernel_rfl⟩
 rcases ht with rfl | ht
 ·exact ⟨⟨rfl, _, Tryz.underlying47, rfl, rfl, by kernel_rfl⟩, rfl, by kernel_rfl, by kernel_rfl⟩
 rcases ht with rfl | ht
 ·exact ⟨⟨_, Tryz.underlying49, rfl, rfl, rfl, rfl, rfl, rfl, rfl, rfl, rfl, rfl, rfl, rfl, trivial⟩, rfl, by kernel_rfl, by kernel_rfl⟩
 rcases ht with rfl | ht
 ·exact ⟨⟨_, Tryz.underlying57, rfl, rfl, rfl, rfl, rfl, rfl, rfl, rfl, rfl, rfl, rfl, rfl, trivial⟩, rfl, by kernel_rfl, by kernel_rfl⟩
 rcases ht with rfl | ht
 ·exact ⟨⟨_, Tryz.underlying73, rfl, rfl, rfl, rfl, rfl, rfl, trivial⟩, rfl, by kernel_rfl, by kernel_rfl⟩
 rcases ht with rfl | ht
 ·exact ⟨⟨_, Tryz.underlying76, rfl, rfl, rfl, rfl, rfl, rfl, rfl, rfl, rfl, rfl, rfl, rfl, trivial⟩, rfl, by kernel_rfl, by kernel_rfl⟩
 rcases ht with rfl | ht
 ·exact ⟨⟨_, Tryz.underlying78, rfl, rfl, rfl, rfl, rfl, rfl, rfl, rfl, rfl, rfl, rfl, rfl, trivial⟩, rfl, by kernel_rfl, by kernel_rfl⟩
 rcases ht with rfl | ht
 ·exact ⟨⟨_, Tryz.underlying108, rfl, rfl, rfl, rfl, rfl, rfl, trivial⟩, rfl, by kernel_rfl, by kernel_rfl⟩
 rcases ht with rfl | ht
 ·exact ⟨⟨_, Tryz.underlying111, rfl, rfl, rfl, rfl, rfl, rfl, rfl, rfl, rfl, rfl, rfl, rfl, trivial⟩, rfl, by kernel_rfl, by kernel_rfl⟩
 rcases ht with rfl | ht
 ·exact ⟨⟨_, Tryz.underlying113, rfl, rfl, rfl, rfl, rfl, rfl, rfl, rfl, rfl, rfl, rfl, rfl, trivial⟩, rfl, by kernel_rfl, by kernel_rfl⟩
 rcases ht with rfl | ht
 ·exact ⟨⟨_, Tryz.underlying115, rfl, rfl, rfl, rfl, rfl, rfl, rfl, rfl, rfl, rfl, rfl, rfl, trivial⟩, rfl, by kernel_rfl, by kernel_rfl⟩
 rcases ht with rfl | ht
 ·exact ⟨⟨_, Tryz.underlying121, rfl, rfl, rfl, rfl, rfl, rfl, rfl, rfl, rfl, rfl, rfl, rfl, trivial⟩, rfl, by kernel_rfl, by kernel_rfl⟩
 rcases ht with rfl | ht
 ·exact ⟨⟨rfl, _, Tryz.underlying146, rfl, rfl, by kernel_rfl⟩, rfl, by kernel_rfl, by kernel_rfl⟩
 rcases ht with rfl | ht
 ·exact ⟨⟨_, Tryz.underlying153, rfl, rfl, rfl, rfl, rfl, rfl, rfl, rfl, rfl, rfl, rfl, rfl, trivial⟩, rfl, by kernel_rfl, by kernel_rfl⟩
 rcases ht with rfl | ht
 ·exact ⟨⟨rfl, _, Tryz.underlying169, rfl, rfl, by kernel_rfl⟩, rfl, by kernel_rfl, by kernel_rfl⟩
 rcases ht with rfl | ht
 ·exact ⟨⟨_, Tryz.underlying171, rfl, rfl, rfl, rfl, rfl, rfl, rfl, rfl, rfl, rfl, rfl, rfl, trivial⟩, rfl, by kernel_rfl, by kernel_rfl⟩
 rcases ht with rfl | ht
 ·exact ⟨⟨rfl, _, Tryz.underlying185, rfl, rfl, by kernel_rfl⟩, rfl, by kernel_rfl, by kernel_rfl⟩
 rcases ht with rfl | ht
 ·exact ⟨Tryz.underlying200, rfl, by kernel_rfl, by kernel_rfl⟩
 rcases ht with rfl | ht
 ·exact ⟨⟨_, Tryz.underlying231⟩, rfl, by kernel_rfl, by kernel_rfl⟩
 cases ht
def h_laws_szRecord : List (Nat × Hint) := []
noncomputable def e_laws_szRecord : Ent := mkE tysC 134 [] h_laws_szRecord Tryz.f134 [(.vw, tyR), (.vw, (.int .i64))] true (.int .i64)
theorem ok_laws_szRecord : e_laws_szRecord.Ok Tryz.prog := mkE_ok envC ok_nil Tryz.func134 (by decide +kernel) (by kernel_rfl)
def h_laws_szRecordS : List (Nat × Hint) := [(122, .loop ⟨[0], [(1, 0, (.int .i64)), (5, 0, (.int .i64))]⟩ [(1, ⟨[], [(4, 0, (.int .i64))]⟩), (2, ⟨[], [(1, 0, (.int .i64))]⟩)])]
noncomputable def e_laws_szRecordS : Ent := mkE tysC 97 [e_laws_szRecord] h_laws_szRecordS Tryz.f97 [(.vw, tyRf), (.vw, (.int .i64))] true (.int .i64)
theorem ok_laws_szRecordS : e_laws_szRecordS.Ok Tryz.prog := mkE_ok envC (ok_cons ok_laws_szRecord ok_nil) Tryz.func97 (by decide +kernel) (by kernel_rfl)
def h_laws_szZone : List (Nat × Hint) := []
noncomputable def e_laws_szZone : Ent := mkE tysC 58 [e_laws_szRecordS] h_laws_szZone Tryz.f58 [(.vw, tyZf), (.vw, (.int .i64))] true (.int .i64)
theorem ok_laws_szZone : e_laws_szZone.Ok Tryz.prog := mkE_ok envC (ok_cons ok_laws_szRecordS ok_nil) Tryz.func58 (by decide +kernel) (by kernel_rfl)
def h_laws_szDoneS : List (Nat × Hint) := []
noncomputable def e_laws_szDoneS : Ent := mkE tysC 59 [] h_laws_szDoneS Tryz.f59 [(.vw, (.lst false tyD)), (.vw, (.int .i64))] true (.int .i64)
theorem ok_laws_szDoneS : e_laws_szDoneS.Ok Tryz.prog := mkE_ok envC ok_nil Tryz.func59 (by decide +kernel) (by kernel_rfl)
def h_laws_szControl : List (Nat × Hint) := []
noncomputable def e_laws_szControl : Ent := mkE tysC 19 [e_laws_szZone, e_laws_szDoneS] h_laws_szControl Tryz.f19 [(.vw, (.pair tyZf (.pair (.lst false tyD) (.pair (.int .i64) .unit)))), (.vw, (.int .i64))] true (.int .i64)
theorem ok_laws_szControl : e_laws_szControl.Ok Tryz.prog := mkE_ok envC (ok_cons ok_laws_szZone (ok_cons ok_laws_szDoneS ok_nil)) Tryz.func19 (by decide +kernel) (by kernel_rfl)
def h_laws_szDiff : List (Nat × Hint) := []
noncomputable def e_laws_szDiff : Ent := mkE tysC 98 [e_laws_szRecordS] h_laws_szDiff Tryz.f98 [(.vw, (.pair (.int .i64) (.pair (.int .i64) (.pair tyRf (.pair tyRf .unit))))), (.vw, (.int .i64))] true (.int .i64)
theorem ok_laws_szDiff : e_laws_szDiff.Ok Tryz.prog := mkE_ok envC (ok_cons ok_laws_szRecordS ok_nil) Tryz.func98 (by decide +kernel) (by kernel_rfl)
def h_laws_szDiffS : List (Nat × Hint) := [(122, .loop ⟨[0], [(1, 0, (.int .i64)), (5, 0, (.int .i64))]⟩ [(1, ⟨[], [(4, 0, (.int .i64))]⟩), (2, ⟨[], [(1, 0, (.int .i64))]⟩)])]
noncomputable def e_laws_szDiffS : Ent := mkE tysC 60 [e_laws_szDiff] h_laws_szDiffS Tryz.f60 [(.vw, (.lst false (.pair (.int .i64) (.pair (.int .i64) (.pair tyRf (.pair tyRf .unit)))))), (.vw, (.int .i64))] true (.int .i64)
theorem ok_laws_szDiffS : e_laws_szDiffS.Ok Tryz.prog := mkE_ok envC (ok_cons ok_laws_szDiff ok_nil) Tryz.func60 (by decide +kernel) (by kernel_rfl)
def h_laws_szJournal : List (Nat × Hint) := []
noncomputable def e_laws_szJournal : Ent := mkE tysC 20 [e_laws_szDiffS] h_laws_szJournal Tryz.f20 [(.vw, (.pair .str (.pair (.int .i64) (.pair (.lst false (.pair (.int .i64) (.pair (.int .i64) (.pair tyRf (.pair tyRf .unit))))) .unit)))), (.vw, (.int .i64))] true (.int .i64)
theorem ok_laws_szJournal : e_laws_szJournal.Ok Tryz.prog := mkE_ok envC (ok_cons ok_laws_szDiffS ok_nil) Tryz.func20 (by decide +kernel) (by kernel_rfl)
def h_laws_szEdge : List (Nat × Hint) := []
noncomputable def e_laws_szEdge : Ent := mkE tysC 61 [e_laws_szZone] h_laws_szEdge Tryz.f61 [(.vw, (.pair tyZf (.pair tyZf .unit))), (.vw, (.int .i64))] true (.int .i64)
theorem ok_laws_szEdge : e_laws_szEdge.Ok Tryz.prog := mkE_ok envC (ok_cons ok_laws_szZone ok_nil) Tryz.func61 (by decide +kernel) (by kernel_rfl)
def h_laws_szEdgeS : List (Nat × Hint) := [(122, .loop ⟨[0], [(1, 0, (.int .i64)), (5, 0, (.int .i64))]⟩ [(1, ⟨[], [(4, 0, (.int .i64))]⟩), (2, ⟨[], [(1, 0, (.int .i64))]⟩)])]
noncomputable def e_laws_szEdgeS : Ent := mkE tysC 21 [e_laws_szEdge] h_laws_szEdgeS Tryz.f21 [(.vw, (.lst false (.pair tyZf (.pair tyZf .unit)))), (.vw, (.int .i64))] true (.int .i64)
theorem ok_laws_szEdgeS : e_laws_szEdgeS.Ok Tryz.prog := mkE_ok envC (ok_cons ok_laws_szEdge ok_nil) Tryz.func21 (by decide +kernel) (by kernel_rfl)
def h_laws_szParcel : List (Nat × Hint) := []
noncomputable def e_laws_szParcel : Ent := mkE tysC 62 [e_laws_szZone, e_laws_szDiff] h_laws_szParcel Tryz.f62 [(.vw, (.pair (.int .i64) (.pair .bool (.pair tyZf (.pair (.pair (.int .i64) (.pair (.int .i64) (.pair tyRf (.pair tyRf .unit)))) .unit))))), (.vw, (.int .i64))] true (.int .i64)
theorem ok_laws_szParcel : e_laws_szParcel.Ok Tryz.prog := mkE_ok envC (ok_cons ok_laws_szZone (ok_cons ok_laws_szDiff ok_nil)) Tryz.func62 (by decide +kernel) (by kernel_rfl)
def h_laws_szParcelS : List (Nat × Hint) := [(122, .loop ⟨[0], [(1, 0, (.int .i64)), (5, 0, (.int .i64))]⟩ [(1, ⟨[], [(4, 0, (.int .i64))]⟩), (2, ⟨[], [(1, 0, (.int .i64))]⟩)])]
noncomputable def e_laws_szParcelS : Ent := mkE tysC 22 [e_laws_szParcel] h_laws_szParcelS Tryz.f22 [(.vw, (.lst false (.pair (.int .i64) (.pair .bool (.pair tyZf (.pair (.pair (.int .i64) (.pair (.int .i64) (.pair tyRf (.pair tyRf .unit)))) .unit)))))), (.vw, (.int .i64))] true (.int .i64)
theorem ok_laws_szParcelS : e_laws_szParcelS.Ok Tryz.prog := mkE_ok envC (ok_cons ok_laws_szParcel ok_nil) Tryz.func22 (by decide +kernel) (by kernel_rfl)
def h_laws_szFleet : List (Nat × Hint) := []
noncomputable def e_laws_szFleet : Ent := mkE tysC 6 [e_laws_szControl, e_laws_szJournal, e_laws_szEdgeS, e_laws_szParcelS] h_laws_szFleet Tryz.f6 [(.vw, (.pair (.pair tyZf (.pair (.lst false tyD) (.pair (.int .i64) .unit))) (.pair (.pair .str (.pair (.int .i64) (.pair (.lst false (.pair (.int .i64) (.pair (.int .i64) (.pair tyRf (.pair tyRf .unit))))) .unit))) (.pair (.lst false (.pair tyZf (.pair tyZf .unit))) (.pair (.lst false (.pair (.int .i64) (.pair .bool (.pair tyZf (.pair (.pair (.int .i64) (.pair (.int .i64) (.pair tyRf (.pair tyRf .unit)))) .unit))))) .unit))))), (.vw, (.int .i64))] true (.int .i64)
theorem ok_laws_szFleet : e_laws_szFleet.Ok Tryz.prog := mkE_ok envC (ok_cons ok_laws_szControl (ok_cons ok_laws_szJournal (ok_cons ok_laws_szEdgeS (ok_cons ok_laws_szParcelS ok_nil)))) Tryz.func6 (by decide +kernel) (by kernel_rfl)
def h_laws_toRecord : List (Nat × Hint) := []
noncomputable def e_laws_toRecord : Ent := mkE tysC 142 [] h_laws_toRecord Tryz.f142 [(.vw, tyR)] true tyR
theorem ok_laws_toRecord : e_laws_toRecord.Ok Tryz.prog := mkE_ok envC ok_nil Tryz.func142 (by decide +kernel) (by kernel_rfl)
def h_laws_toRecordS : List (Nat × Hint) := [(58, .loop ⟨[0], [(3, 0, tyRt), (4, 0, (.int .i64))]⟩ [(2, ⟨[], [(3, 0, tyRt)]⟩)]), (0, .frz [2])]
noncomputable def e_laws_toRecordS : Ent := mkE tysC 104 [e_laws_toRecord] h_laws_toRecordS Tryz.f104 [(.vw, tyRf)] true tyRt
theorem ok_laws_toRecordS : e_laws_toRecordS.Ok Tryz.prog := mkE_ok envC (ok_cons ok_laws_toRecord ok_nil) Tryz.func104 (by decide +kernel) (by kernel_rfl)
def h_laws_toZone : List (Nat × Hint) := []
noncomputable def e_laws_toZone : Ent := mkE tysC 70 [e_laws_toRecordS] h_laws_toZone Tryz.f70 [(.vw, tyZf)] true tyZt
theorem ok_laws_toZone : e_laws_toZone.Ok Tryz.prog := mkE_ok envC (ok_cons ok_laws_toRecordS ok_nil) Tryz.func70 (by decide +kernel) (by kernel_rfl)
def h_laws_toDone : List (Nat × Hint) := []
noncomputable def e_laws_toDone : Ent := mkE tysC 105 [] h_laws_toDone Tryz.f105 [(.vw, tyD)] true tyD
theorem ok_laws_toDone : e_laws_toDone.Ok Tryz.prog := mkE_ok envC ok_nil Tryz.func105 (by decide +kernel) (by kernel_rfl)
def h_laws_toDoneS : List (Nat × Hint) := [(58, .loop ⟨[0], [(3, 0, (.lst true tyD)), (4, 0, (.int .i64))]⟩ [(2, ⟨[], [(3, 0, (.lst true tyD))]⟩)]), (0, .frz [2])]
noncomputable def e_laws_toDoneS : Ent := mkE tysC 71 [e_laws_toDone] h_laws_toDoneS Tryz.f71 [(.vw, (.lst false tyD))] true (.lst true tyD)
theorem ok_laws_toDoneS : e_laws_toDoneS.Ok Tryz.prog := mkE_ok envC (ok_cons ok_laws_toDone ok_nil) Tryz.func71 (by decide +kernel) (by kernel_rfl)
def h_laws_toControl : List (Nat × Hint) := []
noncomputable def e_laws_toControl : Ent := mkE tysC 31 [e_laws_toZone, e_laws_toDoneS] h_laws_toControl Tryz.f31 [(.vw, (.pair tyZf (.pair (.lst false tyD) (.pair (.int .i64) .unit))))] true (.pair tyZt (.pair (.lst true tyD) (.pair (.int .i64) .unit)))
theorem ok_laws_toControl : e_laws_toControl.Ok Tryz.prog := mkE_ok envC (ok_cons ok_laws_toZone (ok_cons ok_laws_toDoneS ok_nil)) Tryz.func31 (by decide +kernel) (by kernel_rfl)
def h_laws_toDiff : List (Nat × Hint) := []
noncomputable def e_laws_toDiff : Ent := mkE tysC 106 [e_laws_toRecordS] h_laws_toDiff Tryz.f106 [(.vw, (.pair (.int .i64) (.pair (.int .i64) (.pair tyRf (.pair tyRf .unit)))))] true (.pair (.int .i64) (.pair (.int .i64) (.pair tyRt (.pair tyRt .unit))))
theorem ok_laws_toDiff : e_laws_toDiff.Ok Tryz.prog := mkE_ok envC (ok_cons ok_laws_toRecordS ok_nil) Tryz.func106 (by decide +kernel) (by kernel_rfl)
def h_laws_toDiffS : List (Nat × Hint) := [(58, .loop ⟨[0], [(3, 0, (.lst true (.pair (.int .i64) (.pair (.int .i64) (.pair tyRt (.pair tyRt .unit)))))), (4, 0, (.int .i64))]⟩ [(2, ⟨[], [(3, 0, (.lst true (.pair (.int .i64) (.pair (.int .i64) (.pair tyRt (.pair tyRt .unit))))))]⟩)]), (0, .frz [2])]
noncomputable def e_laws_toDiffS : Ent := mkE tysC 72 [e_laws_toDiff] h_laws_toDiffS Tryz.f72 [(.vw, (.lst false (.pair (.int .i64) (.pair (.int .i64) (.pair tyRf (.pair tyRf .unit))))))] true (.lst true (.pair (.int .i64) (.pair (.int .i64) (.pair tyRt (.pair tyRt .unit)))))
theorem ok_laws_toDiffS : e_laws_toDiffS.Ok Tryz.prog := mkE_ok envC (ok_cons ok_laws_toDiff ok_nil) Tryz.func72 (by decide +kernel) (by kernel_rfl)
def h_laws_toJournal : List (Nat × Hint) := []
noncomputable def e_laws_toJournal : Ent := mkE tysC 32 [e_laws_toDiffS] h_laws_toJournal Tryz.f32 [(.vw, (.pair .str (.pair (.int .i64) (.pair (.lst false (.pair (.int .i64) (.pair (.int .i64) (.pair tyRf (.pair tyRf .unit))))) .unit))))] true (.pair .str (.pair (.int .i64) (.pair (.lst true (.pair (.int .i64) (.pair (.int .i64) (.pair tyRt (.pair tyRt .unit))))) .unit)))
theorem ok_laws_toJournal : e_laws_toJournal.Ok Tryz.prog := mkE_ok envC (ok_cons ok_laws_toDiffS ok_nil) Tryz.func32 (by decide +kernel) (by kernel_rfl)
def h_laws_toEdge : List (Nat × Hint) := []
noncomputable def e_laws_toEdge : Ent := mkE tysC 73 [e_laws_toZone] h_laws_toEdge Tryz.f73 [(.vw, (.pair tyZf (.pair tyZf .unit)))] true (.pair tyZt (.pair tyZt .unit))
theorem ok_laws_toEdge : e_laws_toEdge.Ok Tryz.prog := mkE_ok envC (ok_cons ok_laws_toZone ok_nil) Tryz.func73 (by decide +kernel) (by kernel_rfl)
def h_laws_toEdgeS : List (Nat × Hint) := [(58, .loop ⟨[0], [(3, 0, (.lst true (.pair tyZt (.pair tyZt .unit)))), (4, 0, (.int .i64))]⟩ [(2, ⟨[], [(3, 0, (.lst true (.pair tyZt (.pair tyZt .unit))))]⟩)]), (0, .frz [2])]
noncomputable def e_laws_toEdgeS : Ent := mkE tysC 33 [e_laws_toEdge] h_laws_toEdgeS Tryz.f33 [(.vw, (.lst false (.pair tyZf (.pair tyZf .unit))))] true (.lst true (.pair tyZt (.pair tyZt .unit)))
theorem ok_laws_toEdgeS : e_laws_toEdgeS.Ok Tryz.prog := mkE_ok envC (ok_cons ok_laws_toEdge ok_nil) Tryz.func33 (by decide +kernel) (by kernel_rfl)
def h_laws_toParcel : List (Nat × Hint) := []
noncomputable def e_laws_toParcel : Ent := mkE tysC 74 [e_laws_toZone, e_laws_toDiff] h_laws_toParcel Tryz.f74 [(.vw, (.pair (.int .i64) (.pair .bool (.pair tyZf (.pair (.pair (.int .i64) (.pair (.int .i64) (.pair tyRf (.pair tyRf .unit)))) .unit)))))] true (.pair (.int .i64) (.pair .bool (.pair tyZt (.pair (.pair (.int .i64) (.pair (.int .i64) (.pair tyRt (.pair tyRt .unit)))) .unit))))
theorem ok_laws_toParcel : e_laws_toParcel.Ok Tryz.prog := mkE_ok envC (ok_cons ok_laws_toZone (ok_cons ok_laws_toDiff ok_nil)) Tryz.func74 (by decide +kernel) (by kernel_rfl)
def h_laws_toParcelS : List (Nat × Hint) := [(58, .loop ⟨[0], [(3, 0, (.lst true (.pair (.int .i64) (.pair .bool (.pair tyZt (.pair (.pair (.int .i64) (.pair (.int .i64) (.pair tyRt (.pair tyRt .unit)))) .unit)))))), (4, 0, (.int .i64))]⟩ [(2, ⟨[], [(3, 0, (.lst true (.pair (.int .i64) (.pair .bool (.pair tyZt (.pair (.pair (.int .i64) (.pair (.int .i64) (.pair tyRt (.pair tyRt .unit)))) .unit))))))]⟩)]), (0, .frz [2])]
noncomputable def e_laws_toParcelS : Ent := mkE tysC 34 [e_laws_toParcel] h_laws_toParcelS Tryz.f34 [(.vw, (.lst false (.pair (.int .i64) (.pair .bool (.pair tyZf (.pair (.pair (.int .i64) (.pair (.int .i64) (.pair tyRf (.pair tyRf .unit)))) .unit))))))] true (.lst true (.pair (.int .i64) (.pair .bool (.pair tyZt (.pair (.pair (.int .i64) (.pair (.int .i64) (.pair tyRt (.pair tyRt .unit)))) .unit)))))
theorem ok_laws_toParcelS : e_laws_toParcelS.Ok Tryz.prog := mkE_ok envC (ok_cons ok_laws_toParcel ok_nil) Tryz.func34 (by decide +kernel) (by kernel_rfl)
def h_laws_toFleet : List (Nat × Hint) := []
noncomputable def e_laws_toFleet : Ent := mkE tysC 8 [e_laws_toControl, e_laws_toJournal, e_laws_toEdgeS, e_laws_toParcelS] h_laws_toFleet Tryz.f8 [(.vw, (.pair (.pair tyZf (.pair (.lst false tyD) (.pair (.int .i64) .unit))) (.pair (.pair .str (.pair (.int .i64) (.pair (.lst false (.pair (.int .i64) (.pair (.int .i64) (.pair tyRf (.pair tyRf .unit))))) .unit))) (.pair (.lst false (.pair tyZf (.pair tyZf .unit))) (.pair (.lst false (.pair (.int .i64) (.pair .bool (.pair tyZf (.pair (.pair (.int .i64) (.pair (.int .i64) (.pair tyRf (.pair tyRf .unit)))) .unit))))) .unit)))))] true (.pair (.pair tyZt (.pair (.lst true tyD) (.pair (.int .i64) .unit))) (.pair (.pair .str (.pair (.int .i64) (.pair (.lst true (.pair (.int .i64) (.pair (.int .i64) (.pair tyRt (.pair tyRt .unit))))) .unit))) (.pair (.lst true (.pair tyZt (.pair tyZt .unit))) (.pair (.lst true (.pair (.int .i64) (.pair .bool (.pair tyZt (.pair (.pair (.int .i64) (.pair (.int .i64) (.pair tyRt (.pair tyRt .unit)))) .unit))))) .unit))))
theorem ok_laws_toFleet : e_laws_toFleet.Ok Tryz.prog := mkE_ok envC (ok_cons ok_laws_toControl (ok_cons ok_laws_toJournal (ok_cons ok_laws_toEdgeS (ok_cons ok_laws_toParcelS ok_nil)))) Tryz.func8 (by decide +kernel) (by kernel_rfl)
def h_spec_l1In : List (Nat × Hint) := [(3, .join [(0, ⟨[], [(6, 0, .bool)]⟩)])]
noncomputable def e_spec_l1In : Ent := mkE tysC 26 [] h_spec_l1In Tryz.f26 [(.vw, (.int .i64)), (.vw, (.int .i64)), (.vw, (.int .i64))] true .bool
theorem ok_spec_l1In : e_spec_l1In.Ok Tryz.prog := mkE_ok envC ok_nil Tryz.func26 (by decide +kernel) (by kernel_rfl)
def h_spec_l16Who : List (Nat × Hint) := [(3, .join [(0, ⟨[], [(4, 0, .bool)]⟩)])]
noncomputable def e_spec_l16Who : Ent := mkE tysC 63 [e_spec_l1In] h_spec_l16Who Tryz.f63 [(.vw, (.int .i64)), (.vw, (.int .i64))] true .bool
theorem ok_spec_l16Who : e_spec_l16Who.Ok Tryz.prog := mkE_ok envC (ok_cons ok_spec_l1In ok_nil) Tryz.func63 (by decide +kernel) (by kernel_rfl)
def h_spec_l5Serial : List (Nat × Hint) := []
noncomputable def e_spec_l5Serial : Ent := mkE tysC 64 [e_spec_l1In] h_spec_l5Serial Tryz.f64 [(.vw, (.int .i64))] true .bool
theorem ok_spec_l5Serial : e_spec_l5Serial.Ok Tryz.prog := mkE_ok envC (ok_cons ok_spec_l1In ok_nil) Tryz.func64 (by decide +kernel) (by kernel_rfl)
def h_spec_l1Split : List (Nat × Hint) := [(122, .loop ⟨[0, 1], [(5, 0, (.lst true .str)), (6, 0, (.int .i64)), (7, 0, (.int .i64))]⟩ [(2, ⟨[0], [(5, 0, (.lst true .str)), (6, 0, (.int .i64))]⟩)]), (489, .join [(0, ⟨[0, 1, 7], [(5, 0, (.lst true .str)), (6, 0, (.int .i64))]⟩)])]
noncomputable def e_spec_l1Split : Ent := mkE tysC 137 [] h_spec_l1Split Tryz.f137 [(.vw, .str), (.vw, (.int .u8))] true (.lst true .str)
theorem ok_spec_l1Split : e_spec_l1Split.Ok Tryz.prog := mkE_ok envC ok_nil Tryz.func137 (by decide +kernel) (by kernel_rfl)
def h_spec_l1Label : List (Nat × Hint) := [(58, .loop ⟨[0], [(3, 0, (.int .i64))]⟩ [(1, ⟨[2], []⟩), (2, ⟨[0], []⟩)]), (1865, .join [(0, ⟨[0, 3], [(38, 0, .bool)]⟩)])]
noncomputable def e_spec_l1Label : Ent := mkE tysC 138 [e_spec_l1In] h_spec_l1Label Tryz.f138 [(.vw, .str)] true .bool
theorem ok_spec_l1Label : e_spec_l1Label.Ok Tryz.prog := mkE_ok envC (ok_cons ok_spec_l1In ok_nil) Tryz.func138 (by decide +kernel) (by kernel_rfl)
def h_spec_l1Labels : List (Nat × Hint) := [(31, .join [(0, ⟨[], [(2, 0, (.lst true .str)), (3, 0, .bool)]⟩)]), (122, .loop ⟨[0, 4, 11, 12], [(13, 0, (.int .i64))]⟩ [(1, ⟨[2, 3], []⟩), (2, ⟨[0, 4], []⟩)])]
noncomputable def e_spec_l1Labels : Ent := mkE tysC 101 [e_spec_l1Split, e_spec_l1Label] h_spec_l1Labels Tryz.f101 [(.vw, .str)] false (.pair (.lst true .str) (.pair .bool .unit))
theorem ok_spec_l1Labels : e_spec_l1Labels.Ok Tryz.prog := mkE_ok envC (ok_cons ok_spec_l1Split (ok_cons ok_spec_l1Label ok_nil)) Tryz.func101 (by decide +kernel) (by kernel_rfl)
def h_spec_l6Apex : List (Nat × Hint) := [(58, .loop ⟨[3, 12, 13], [(4, 0, .bool), (14, 0, (.int .i64))]⟩ [(2, ⟨[], [(4, 0, .bool)]⟩)]), (467, .join [(0, ⟨[3, 12, 13, 14], [(4, 0, .bool)]⟩)])]
noncomputable def e_spec_l6Apex : Ent := mkE tysC 66 [e_spec_l1Labels] h_spec_l6Apex Tryz.f66 [(.vw, .str)] true .bool
theorem ok_spec_l6Apex : e_spec_l6Apex.Ok Tryz.prog := mkE_ok envC (ok_cons ok_spec_l1Labels ok_nil) Tryz.func66 (by decide +kernel) (by kernel_rfl)
def h_spec_l1Int : List (Nat × Hint) := [(122, .loop ⟨[0], [(3, 0, (.int .i64)), (4, 0, (.int .i64))]⟩ [(1, ⟨[], [(2, 0, (.int .i64))]⟩), (2, ⟨[], [(3, 0, (.int .i64))]⟩)]), (3912, .join [(0, ⟨[0, 3, 4], [(34, 0, .bool)]⟩)]), (6, .join [(0, ⟨[0], [(18, 0, .bool)]⟩)])]
noncomputable def e_spec_l1Int : Ent := mkE tysC 160 [e_spec_l1In] h_spec_l1Int Tryz.f160 [(.vw, .str)] true (.int .i64)
theorem ok_spec_l1Int : e_spec_l1Int.Ok Tryz.prog := mkE_ok envC (ok_cons ok_spec_l1In ok_nil) Tryz.func160 (by decide +kernel) (by kernel_rfl)
def h_spec_l3Number : List (Nat × Hint) := [(58, .loop ⟨[], [(0, 0, (.int .i64)), (5, 0, (.lst true (.int .u8))), (6, 0, (.int .i64))]⟩ [(2, ⟨[], [(5, 0, (.lst true (.int .u8)))]⟩)])]
noncomputable def e_spec_l3Number : Ent := mkE tysC 161 [] h_spec_l3Number Tryz.f161 [(.vw, (.int .i64)), (.vw, (.int .i64))] true .str
theorem ok_spec_l3Number : e_spec_l3Number.Ok Tryz.prog := mkE_ok envC ok_nil Tryz.func161 (by decide +kernel) (by kernel_rfl)
def h_spec_l3Target : List (Nat × Hint) := [(15, .join [(0, ⟨[], [(2, 0, .bool)]⟩)]), (58, .loop ⟨[0, 3, 12, 13], [(4, 0, .bool), (14, 0, (.int .i64))]⟩ [(2, ⟨[0], [(4, 0, .bool)]⟩)]), (467, .join [(0, ⟨[0, 3, 12, 13, 14], [(4, 0, .bool)]⟩)])]
noncomputable def e_spec_l3Target : Ent := mkE tysC 162 [e_spec_l1Labels] h_spec_l3Target Tryz.f162 [(.vw, .str)] true .bool
theorem ok_spec_l3Target : e_spec_l3Target.Ok Tryz.prog := mkE_ok envC (ok_cons ok_spec_l1Labels ok_nil) Tryz.func162 (by decide +kernel) (by kernel_rfl)
def h_spec_l2Bytes : List (Nat × Hint) := [(122, .loop ⟨[3, 13, 14], [(5, 0, .str), (15, 0, (.int .i64))]⟩ [(2, ⟨[], [(5, 0, .str)]⟩)])]
noncomputable def e_spec_l2Bytes : Ent := mkE tysC 163 [e_spec_l1Labels] h_spec_l2Bytes Tryz.f163 [(.vw, .str)] true .str
theorem ok_spec_l2Bytes : e_spec_l2Bytes.Ok Tryz.prog := mkE_ok envC (ok_cons ok_spec_l1Labels ok_nil) Tryz.func163 (by decide +kernel) (by kernel_rfl)
def h_spec_l3Bytes : List (Nat × Hint) := [(221170, .loop ⟨[1], [(13, 0, (.int .i64))]⟩ [(1, ⟨[], [(4, 0, .str), (5, 0, .bool)]⟩), (5, ⟨[1], []⟩)]), (3538724, .join [(0, ⟨[1, 13], [(104, 0, .bool)]⟩)]), (27642, .join [(0, ⟨[12], [(76, 0, .bool)]⟩)]), (107, .join [(0, ⟨[1, 14], [(39, 0, .bool)]⟩)]), (3418, .loop ⟨[7, 19, 20], [(6, 0, .str), (21, 0, (.int .i64))]⟩ [(1, ⟨[4, 5], []⟩), (3, ⟨[7], [(6, 0, .str)]⟩)])]
noncomputable def e_spec_l3Bytes : Ent := mkE tysC 139 [e_spec_l1Split, e_spec_l1Int, e_spec_l1In, e_spec_l3Number, e_spec_l3Target, e_spec_l2Bytes] h_spec_l3Bytes Tryz.f139 [(.vw, (.int .i64)), (.vw, .str)] false (.pair .str (.pair .bool .unit))
theorem ok_spec_l3Bytes : e_spec_l3Bytes.Ok Tryz.prog := mkE_ok envC (ok_cons ok_spec_l1Split (ok_cons ok_spec_l1Int (ok_cons ok_spec_l1In (ok_cons ok_spec_l3Number (ok_cons ok_spec_l3Target (ok_cons ok_spec_l2Bytes ok_nil)))))) Tryz.func139 (by decide +kernel) (by kernel_rfl)
def h_spec_GoodName : List (Nat × Hint) := []
noncomputable def e_spec_GoodName : Ent := mkE tysC 120 [e_spec_l1Labels] h_spec_GoodName Tryz.f120 [(.vw, .str)] true .bool
theorem ok_spec_GoodName : e_spec_GoodName.Ok Tryz.prog := mkE_ok envC (ok_cons ok_spec_l1Labels ok_nil) Tryz.func120 (by decide +kernel) (by kernel_rfl)
def h_spec_GoodRecord : List (Nat × Hint) := [(7, .join [(0, ⟨[], [(2, 0, .bool)]⟩)])]
noncomputable def e_spec_GoodRecord : Ent := mkE tysC 102 [e_spec_l3Bytes, e_spec_GoodName, e_spec_l1In] h_spec_GoodRecord Tryz.f102 [(.vw, tyR)] true .bool
theorem ok_spec_GoodRecord : e_spec_GoodRecord.Ok Tryz.prog := mkE_ok envC (ok_cons ok_spec_l3Bytes (ok_cons ok_spec_GoodName (ok_cons ok_spec_l1In ok_nil))) Tryz.func102 (by decide +kernel) (by kernel_rfl)
def h_spec_l1Compare : List (Nat × Hint) := [(122, .loop ⟨[5, 7], [(9, 0, (.int .i64))]⟩ [(1, ⟨[], [(4, 0, (.int .i64))]⟩), (2, ⟨[5, 7], []⟩)]), (488, .join [(0, ⟨[5, 7, 9], [(31, 0, .bool)]⟩)])]
noncomputable def e_spec_l1Compare : Ent := mkE tysC 140 [e_spec_l1Labels] h_spec_l1Compare Tryz.f140 [(.vw, .str), (.vw, .str)] true (.int .i64)
theorem ok_spec_l1Compare : e_spec_l1Compare.Ok Tryz.prog := mkE_ok envC (ok_cons ok_spec_l1Labels ok_nil) Tryz.func140 (by decide +kernel) (by kernel_rfl)
def h_spec_l3Less : List (Nat × Hint) := []
noncomputable def e_spec_l3Less : Ent := mkE tysC 141 [] h_spec_l3Less Tryz.f141 [(.vw, .bool)] true (.int .i64)
theorem ok_spec_l3Less : e_spec_l3Less.Ok Tryz.prog := mkE_ok envC ok_nil Tryz.func141 (by decide +kernel) (by kernel_rfl)
def h_spec_l3Compare : List (Nat × Hint) := []
noncomputable def e_spec_l3Compare : Ent := mkE tysC 103 [e_spec_l1Compare, e_spec_l3Bytes, e_spec_l3Less] h_spec_l3Compare Tryz.f103 [(.vw, tyR), (.vw, tyR)] true (.int .i64)
theorem ok_spec_l3Compare : e_spec_l3Compare.Ok Tryz.prog := mkE_ok envC (ok_cons ok_spec_l1Compare (ok_cons ok_spec_l3Bytes (ok_cons ok_spec_l3Less ok_nil))) Tryz.func103 (by decide +kernel) (by kernel_rfl)
def h_spec_l6List : List (Nat × Hint) := [(26, .loop ⟨[0, 5, 6], [(7, 0, (.int .i64))]⟩ [(1, ⟨[2], []⟩), (2, ⟨[0], []⟩)]), (1689, .join [(0, ⟨[0, 5, 6, 7], [(28, 0, .bool)]⟩)])]
noncomputable def e_spec_l6List : Ent := mkE tysC 68 [e_spec_GoodRecord, e_spec_l3Compare] h_spec_l6List Tryz.f68 [(.vw, tyRf)] true .bool
theorem ok_spec_l6List : e_spec_l6List.Ok Tryz.prog := mkE_ok envC (ok_cons ok_spec_GoodRecord (ok_cons ok_spec_l3Compare ok_nil)) Tryz.func68 (by decide +kernel) (by kernel_rfl)
def h_spec_l1Below : List (Nat × Hint) := [(7, .join [(0, ⟨[], [(4, 0, .bool)]⟩)])]
noncomputable def e_spec_l1Below : Ent := mkE tysC 122 [] h_spec_l1Below Tryz.f122 [(.vw, .str), (.vw, .str)] true .bool
theorem ok_spec_l1Below : e_spec_l1Below.Ok Tryz.prog := mkE_ok envC ok_nil Tryz.func122 (by decide +kernel) (by kernel_rfl)
def h_spec_l6Has : List (Nat × Hint) := [(26, .loop ⟨[1, 2, 9, 10], [(11, 0, (.int .i64))]⟩ [(1, ⟨[], [(6, 0, .bool)]⟩), (2, ⟨[], []⟩)]), (1689, .join [(0, ⟨[1, 2, 9, 10, 11], [(24, 0, .bool)]⟩)])]
noncomputable def e_spec_l6Has : Ent := mkE tysC 154 [] h_spec_l6Has Tryz.f154 [(.vw, tyRf), (.vw, .str), (.vw, (.int .i64))] true .bool
theorem ok_spec_l6Has : e_spec_l6Has.Ok Tryz.prog := mkE_ok envC ok_nil Tryz.func154 (by decide +kernel) (by kernel_rfl)
def h_spec_l1Parent : List (Nat × Hint) := [(26, .loop ⟨[0], [(3, 0, (.int .i64))]⟩ [(1, ⟨[], [(2, 0, .str)]⟩), (2, ⟨[], []⟩)])]
noncomputable def e_spec_l1Parent : Ent := mkE tysC 155 [] h_spec_l1Parent Tryz.f155 [(.vw, .str)] true .str
theorem ok_spec_l1Parent : e_spec_l1Parent.Ok Tryz.prog := mkE_ok envC ok_nil Tryz.func155 (by decide +kernel) (by kernel_rfl)
def h_spec_l6Cut : List (Nat × Hint) := [(60, .loop ⟨[0, 1], [(2, 0, .str), (8, 0, .str), (9, 0, .bool)]⟩ [(2, ⟨[], [(8, 0, .str), (9, 0, .bool)]⟩)]), (482, .join [(0, ⟨[0, 1, 2], [(8, 0, .str), (9, 0, .bool)]⟩)]), (240, .join [(0, ⟨[0, 1, 2, 8, 9], [(17, 0, .bool)]⟩)])]
noncomputable def e_spec_l6Cut : Ent := mkE tysC 123 [e_spec_l1Below, e_spec_l6Has, e_spec_l1Parent] h_spec_l6Cut Tryz.f123 [(.vw, .str), (.vw, tyRf), (.vw, .str)] false (.pair .str (.pair .bool .unit))
theorem ok_spec_l6Cut : e_spec_l6Cut.Ok Tryz.prog := mkE_ok envC (ok_cons ok_spec_l1Below (ok_cons ok_spec_l6Has (ok_cons ok_spec_l1Parent ok_nil))) Tryz.func123 (by decide +kernel) (by kernel_rfl)
def h_spec_l6Rule : List (Nat × Hint) := [(2042, .loop ⟨[0, 1, 132, 133], [(134, 0, (.int .i64))]⟩ [(1, ⟨[], [(4, 0, (.int .i64))]⟩), (10, ⟨[], []⟩)]), (261427, .join [(0, ⟨[0, 1, 132, 133, 134], [(162, 0, .bool)]⟩)]), (506, .loop ⟨[0, 1, 97, 98], [(99, 0, (.int .i64))]⟩ [(1, ⟨[], [(4, 0, (.int .i64))]⟩), (6, ⟨[0, 1], []⟩)]), (129638, .loop ⟨[0, 1, 11, 97, 98, 99, 106, 107], [(108, 0, (.int .i64))]⟩ [(1, ⟨[], [(4, 0, (.int .i64))]⟩), (8, ⟨[0, 1, 97, 98, 99], []⟩)]), (8296857, .join [(0, ⟨[0, 1, 11, 97, 98, 99, 106, 107, 108], [(126, 0, .bool)]⟩)]), (250, .loop ⟨[0, 1, 43, 44], [(45, 0, (.int .i64))]⟩ [(1, ⟨[], [(4, 0, (.int .i64))]⟩), (4, ⟨[0, 1], []⟩)]), (16025, .join [(0, ⟨[0, 1, 43, 44, 45], [(95, 0, .bool)]⟩)]), (58, .loop ⟨[0, 1, 18, 19], [(5, 0, (.int .i64)), (20, 0, (.int .i64))]⟩ [(1, ⟨[], [(4, 0, (.int .i64))]⟩), (2, ⟨[0, 1], [(5, 0, (.int .i64))]⟩)]), (467, .join [(0, ⟨[0, 1, 18, 19, 20], [(5, 0, (.int .i64))]⟩), (1, ⟨[], [(4, 0, (.int .i64))]⟩)])]
noncomputable def e_spec_l6Rule : Ent := mkE tysC 135 [e_spec_l1Below, e_spec_l6Has, e_spec_l6Cut] h_spec_l6Rule Tryz.f135 [(.vw, .str), (.vw, tyRf)] true (.int .i64)
theorem ok_spec_l6Rule : e_spec_l6Rule.Ok Tryz.prog := mkE_ok envC (ok_cons ok_spec_l1Below (ok_cons ok_spec_l6Has (ok_cons ok_spec_l6Cut ok_nil))) Tryz.func135 (by decide +kernel) (by kernel_rfl)
def h_spec_RuleOf : List (Nat × Hint) := [(6, .join [(0, ⟨[0, 1], [(12, 0, .bool)]⟩)])]
noncomputable def e_spec_RuleOf : Ent := mkE tysC 99 [e_spec_l6Apex, e_spec_l6List, e_spec_l6Rule] h_spec_RuleOf Tryz.f99 [(.vw, .str), (.vw, tyRf)] true (.int .i64)
theorem ok_spec_RuleOf : e_spec_RuleOf.Ok Tryz.prog := mkE_ok envC (ok_cons ok_spec_l6Apex (ok_cons ok_spec_l6List (ok_cons ok_spec_l6Rule ok_nil))) Tryz.func99 (by decide +kernel) (by kernel_rfl)
def h_spec_l1Num : List (Nat × Hint) := []
noncomputable def z_spec_l1Num : Ent := ⟨136, [(.vw, (.int .i64))], true, .str, fun _ => none⟩
noncomputable def p_spec_l1Num : PE := (comp tysC [z_spec_l1Num] h_spec_l1Num Tryz.f136 [(.vw, (.int .i64))] true .str).getD .bot
noncomputable def f_rec_spec_l1Num : Nat → List D → Option D
 | 0 => fun _ => none
 | k + 1 => runPE [⟨136, [(.vw, (.int .i64))], true, .str, f_rec_spec_l1Num k⟩] p_spec_l1Num
noncomputable abbrev r_spec_l1Num (k : Nat) : Ent := ⟨136, [(.vw, (.int .i64))], true, .str, f_rec_spec_l1Num k⟩
theorem okr_spec_l1Num : ∀ k, (r_spec_l1Num k).Ok Tryz.prog
 | 0 => ⟨⟨Tryz.f136, Tryz.func136, by decide +kernel, by kernel_rfl⟩, fun _ _ _ h => by cases h⟩
 | k + 1 => Ent.ok_of (pe := p_spec_l1Num) (fn := Tryz.f136) (hs := h_spec_l1Num) envC (ok_cons (okr_spec_l1Num k) ok_nil) Tryz.func136 (by decide +kernel) (by kernel_rfl) rfl
noncomputable def e_spec_l1Num : Ent := r_spec_l1Num 40
theorem ok_spec_l1Num : e_spec_l1Num.Ok Tryz.prog := okr_spec_l1Num 40
def h_spec_l6Soa : List (Nat × Hint) := []
noncomputable def e_spec_l6Soa : Ent := mkE tysC 100 [e_spec_l1Num] h_spec_l6Soa Tryz.f100 [(.vw, tyZf)] true .str
theorem ok_spec_l6Soa : e_spec_l6Soa.Ok Tryz.prog := mkE_ok envC (ok_cons ok_spec_l1Num ok_nil) Tryz.func100 (by decide +kernel) (by kernel_rfl)
def h_spec_GoodZone : List (Nat × Hint) := [(58, .loop ⟨[1, 18, 19], [(20, 0, (.int .i64))]⟩ [(1, ⟨[], [(2, 0, .bool)]⟩), (2, ⟨[], []⟩)]), (3737, .join [(0, ⟨[1, 18, 19, 20], [(33, 0, .bool)]⟩)]), (6, .join [(0, ⟨[1], [(16, 0, .bool)]⟩)])]
noncomputable def e_spec_GoodZone : Ent := mkE tysC 65 [e_spec_l1In, e_spec_RuleOf, e_spec_l6Soa] h_spec_GoodZone Tryz.f65 [(.vw, tyZf)] true .bool
theorem ok_spec_GoodZone : e_spec_GoodZone.Ok Tryz.prog := mkE_ok envC (ok_cons ok_spec_l1In (ok_cons ok_spec_RuleOf (ok_cons ok_spec_l6Soa ok_nil))) Tryz.func65 (by decide +kernel) (by kernel_rfl)
def h_spec_GoodControl : List (Nat × Hint) := [(7, .join [(0, ⟨[], [(2, 0, .bool)]⟩)]), (26, .loop ⟨[1, 6, 7], [(8, 0, (.int .i64))]⟩ [(1, ⟨[2], []⟩), (2, ⟨[1], []⟩)]), (1689, .join [(0, ⟨[1, 6, 7, 8], [(46, 0, .bool)]⟩)])]
noncomputable def e_spec_GoodControl : Ent := mkE tysC 23 [e_spec_l16Who, e_spec_l1In, e_spec_l5Serial, e_spec_GoodZone] h_spec_GoodControl Tryz.f23 [(.vw, (.pair tyZf (.pair (.lst false tyD) (.pair (.int .i64) .unit))))] true .bool
theorem ok_spec_GoodControl : e_spec_GoodControl.Ok Tryz.prog := mkE_ok envC (ok_cons ok_spec_l16Who (ok_cons ok_spec_l1In (ok_cons ok_spec_l5Serial (ok_cons ok_spec_GoodZone ok_nil)))) Tryz.func23 (by decide +kernel) (by kernel_rfl)
def h_spec_l9Counter : List (Nat × Hint) := []
noncomputable def e_spec_l9Counter : Ent := mkE tysC 67 [e_spec_l1In] h_spec_l9Counter Tryz.f67 [(.vw, (.int .i64))] true .bool
theorem ok_spec_l9Counter : e_spec_l9Counter.Ok Tryz.prog := mkE_ok envC (ok_cons ok_spec_l1In ok_nil) Tryz.func67 (by decide +kernel) (by kernel_rfl)
def h_spec_l9Has : List (Nat × Hint) := [(26, .loop ⟨[3, 7, 8], [(9, 0, (.int .i64))]⟩ [(1, ⟨[], [(4, 0, .bool)]⟩), (2, ⟨[], []⟩)])]
noncomputable def e_spec_l9Has : Ent := mkE tysC 69 [] h_spec_l9Has Tryz.f69 [(.vw, tyRf), (.vw, tyR)] true .bool
theorem ok_spec_l9Has : e_spec_l9Has.Ok Tryz.prog := mkE_ok envC ok_nil Tryz.func69 (by decide +kernel) (by kernel_rfl)
def h_spec_GoodDiff : List (Nat × Hint) := [(58, .loop ⟨[1, 35, 36], [(37, 0, (.int .i64))]⟩ [(1, ⟨[], [(2, 0, .bool)]⟩), (2, ⟨[], []⟩)]), (6, .join [(0, ⟨[1], [(33, 0, .bool)]⟩)])]
noncomputable def e_spec_GoodDiff : Ent := mkE tysC 30 [e_spec_l9Counter, e_spec_l6List, e_spec_l9Has] h_spec_GoodDiff Tryz.f30 [(.vw, (.pair (.int .i64) (.pair (.int .i64) (.pair tyRf (.pair tyRf .unit)))))] true .bool
theorem ok_spec_GoodDiff : e_spec_GoodDiff.Ok Tryz.prog := mkE_ok envC (ok_cons ok_spec_l9Counter (ok_cons ok_spec_l6List (ok_cons ok_spec_l9Has ok_nil))) Tryz.func30 (by decide +kernel) (by kernel_rfl)
def h_spec_GoodJournal : List (Nat × Hint) := [(122, .loop ⟨[25, 26], [(3, 0, (.int .i64)), (27, 0, (.int .i64))]⟩ [(1, ⟨[], [(2, 0, .bool)]⟩), (2, ⟨[], []⟩)]), (15666, .join [(0, ⟨[5, 25, 26, 27], [(46, 0, .bool)]⟩)]), (6, .join [(0, ⟨[1], [(21, 0, .bool)]⟩)])]
noncomputable def e_spec_GoodJournal : Ent := mkE tysC 24 [e_spec_l6Apex, e_spec_l9Counter, e_spec_GoodDiff] h_spec_GoodJournal Tryz.f24 [(.vw, (.pair .str (.pair (.int .i64) (.pair (.lst false (.pair (.int .i64) (.pair (.int .i64) (.pair tyRf (.pair tyRf .unit))))) .unit))))] true .bool
theorem ok_spec_GoodJournal : e_spec_GoodJournal.Ok Tryz.prog := mkE_ok envC (ok_cons ok_spec_l6Apex (ok_cons ok_spec_l9Counter (ok_cons ok_spec_GoodDiff ok_nil))) Tryz.func24 (by decide +kernel) (by kernel_rfl)
def h_spec_l9Last : List (Nat × Hint) := []
noncomputable def e_spec_l9Last : Ent := mkE tysC 25 [] h_spec_l9Last Tryz.f25 [(.vw, (.pair .str (.pair (.int .i64) (.pair (.lst false (.pair (.int .i64) (.pair (.int .i64) (.pair tyRf (.pair tyRf .unit))))) .unit))))] true (.int .i64)
theorem ok_spec_l9Last : e_spec_l9Last.Ok Tryz.prog := mkE_ok envC ok_nil Tryz.func25 (by decide +kernel) (by kernel_rfl)
def h_spec_l17Zone : List (Nat × Hint) := [(3, .join [(0, ⟨[], [(4, 0, .bool)]⟩)])]
noncomputable def e_spec_l17Zone : Ent := mkE tysC 27 [e_spec_GoodZone] h_spec_l17Zone Tryz.f27 [(.vw, (.pair (.pair tyZf (.pair (.lst false tyD) (.pair (.int .i64) .unit))) (.pair (.pair .str (.pair (.int .i64) (.pair (.lst false (.pair (.int .i64) (.pair (.int .i64) (.pair tyRf (.pair tyRf .unit))))) .unit))) (.pair (.lst false (.pair tyZf (.pair tyZf .unit))) (.pair (.lst false (.pair (.int .i64) (.pair .bool (.pair tyZf (.pair (.pair (.int .i64) (.pair (.int .i64) (.pair tyRf (.pair tyRf .unit)))) .unit))))) .unit))))), (.vw, tyZf)] true .bool
theorem ok_spec_l17Zone : e_spec_l17Zone.Ok Tryz.prog := mkE_ok envC (ok_cons ok_spec_GoodZone ok_nil) Tryz.func27 (by decide +kernel) (by kernel_rfl)
def h_spec_l17NoDiff : List (Nat × Hint) := [(3, .join [(0, ⟨[], [(2, 0, .bool)]⟩)])]
noncomputable def e_spec_l17NoDiff : Ent := mkE tysC 28 [] h_spec_l17NoDiff Tryz.f28 [(.vw, (.pair (.int .i64) (.pair (.int .i64) (.pair tyRf (.pair tyRf .unit)))))] true .bool
theorem ok_spec_l17NoDiff : e_spec_l17NoDiff.Ok Tryz.prog := mkE_ok envC ok_nil Tryz.func28 (by decide +kernel) (by kernel_rfl)
def h_spec_l17NoZone : List (Nat × Hint) := [(3, .join [(0, ⟨[], [(2, 0, .bool)]⟩)])]
noncomputable def e_spec_l17NoZone : Ent := mkE tysC 29 [] h_spec_l17NoZone Tryz.f29 [(.vw, tyZf)] true .bool
theorem ok_spec_l17NoZone : e_spec_l17NoZone.Ok Tryz.prog := mkE_ok envC ok_nil Tryz.func29 (by decide +kernel) (by kernel_rfl)
def h_spec_GoodFleet : List (Nat × Hint) := [(122, .loop ⟨[1, 74, 75], [(76, 0, (.int .i64))]⟩ [(1, ⟨[], [(2, 0, .bool)]⟩), (4, ⟨[], []⟩)]), (31335, .join [(0, ⟨[1, 74, 75, 76], [(136, 0, .bool)]⟩)]), (31334, .join [(0, ⟨[1, 6, 74, 75, 76], [(102, 0, .bool)]⟩)]), (58, .loop ⟨[1, 54, 55], [(56, 0, (.int .i64))]⟩ [(1, ⟨[], [(2, 0, .bool)]⟩), (2, ⟨[1], []⟩)]), (3737, .join [(0, ⟨[1, 54, 55, 56], [(71, 0, .bool)]⟩)]), (6, .join [(0, ⟨[1], [(52, 0, .bool)]⟩)])]
noncomputable def e_spec_GoodFleet : Ent := mkE tysC 7 [e_spec_GoodControl, e_spec_GoodJournal, e_spec_l9Last, e_spec_l1In, e_spec_l17Zone, e_spec_l17NoDiff, e_spec_l17NoZone, e_spec_GoodDiff] h_spec_GoodFleet Tryz.f7 [(.vw, (.pair (.pair tyZf (.pair (.lst false tyD) (.pair (.int .i64) .unit))) (.pair (.pair .str (.pair (.int .i64) (.pair (.lst false (.pair (.int .i64) (.pair (.int .i64) (.pair tyRf (.pair tyRf .unit))))) .unit))) (.pair (.lst false (.pair tyZf (.pair tyZf .unit))) (.pair (.lst false (.pair (.int .i64) (.pair .bool (.pair tyZf (.pair (.pair (.int .i64) (.pair (.int .i64) (.pair tyRf (.pair tyRf .unit)))) .unit))))) .unit)))))] true .bool
theorem ok_spec_GoodFleet : e_spec_GoodFleet.Ok Tryz.prog := mkE_ok envC (ok_cons ok_spec_GoodControl (ok_cons ok_spec_GoodJournal (ok_cons ok_spec_l9Last (ok_cons ok_spec_l1In (ok_cons ok_spec_l17Zone (ok_cons ok_spec_l17NoDiff (ok_cons ok_spec_l17NoZone (ok_cons ok_spec_GoodDiff ok_nil)))))))) Tryz.func7 (by decide +kernel) (by kernel_rfl)
def h_spec_l1Has : List (Nat × Hint) := [(26, .loop ⟨[1, 7, 8], [(9, 0, (.int .i64))]⟩ [(1, ⟨[], [(4, 0, .bool)]⟩), (2, ⟨[], []⟩)])]
noncomputable def e_spec_l1Has : Ent := mkE tysC 153 [] h_spec_l1Has Tryz.f153 [(.vw, (.lst false (.int .i64))), (.vw, (.int .i64))] true .bool
theorem ok_spec_l1Has : e_spec_l1Has.Ok Tryz.prog := mkE_ok envC ok_nil Tryz.func153 (by decide +kernel) (by kernel_rfl)
def h_spec_l3Type : List (Nat × Hint) := []
noncomputable def e_spec_l3Type : Ent := mkE tysC 121 [e_spec_l1Has] h_spec_l3Type Tryz.f121 [(.vw, (.int .i64))] true .bool
theorem ok_spec_l3Type : e_spec_l3Type.Ok Tryz.prog := mkE_ok envC (ok_cons ok_spec_l1Has ok_nil) Tryz.func121 (by decide +kernel) (by kernel_rfl)
def h_spec_l7Ask : List (Nat × Hint) := [(3, .join [(0, ⟨[], [(6, 0, .bool)]⟩)])]
noncomputable def e_spec_l7Ask : Ent := mkE tysC 88 [e_spec_GoodZone, e_spec_GoodName, e_spec_l3Type] h_spec_l7Ask Tryz.f88 [(.vw, tyZf), (.vw, .str), (.vw, (.int .i64))] true .bool
theorem ok_spec_l7Ask : e_spec_l7Ask.Ok Tryz.prog := mkE_ok envC (ok_cons ok_spec_GoodZone (ok_cons ok_spec_GoodName (ok_cons ok_spec_l3Type ok_nil))) Tryz.func88 (by decide +kernel) (by kernel_rfl)
def h_spec_l6Set : List (Nat × Hint) := [(58, .loop ⟨[1, 2, 10, 11], [(7, 0, tyRt), (12, 0, (.int .i64))]⟩ [(2, ⟨[], [(7, 0, tyRt)]⟩)]), (467, .join [(0, ⟨[1, 2, 10, 11, 12], [(7, 0, tyRt)]⟩)]), (3737, .join [(0, ⟨[1, 2, 7, 9, 10, 11, 12], [(25, 0, .bool)]⟩)]), (0, .frz [6])]
noncomputable def e_spec_l6Set : Ent := mkE tysC 124 [] h_spec_l6Set Tryz.f124 [(.vw, tyRf), (.vw, .str), (.vw, (.int .i64))] true tyRt
theorem ok_spec_l6Set : e_spec_l6Set.Ok Tryz.prog := mkE_ok envC ok_nil Tryz.func124 (by decide +kernel) (by kernel_rfl)
def h_spec_l7There : List (Nat × Hint) := [(26, .loop ⟨[1, 8, 9], [(10, 0, (.int .i64))]⟩ [(1, ⟨[], [(4, 0, .bool)]⟩), (2, ⟨[], []⟩)])]
noncomputable def e_spec_l7There : Ent := mkE tysC 125 [e_spec_l1Below] h_spec_l7There Tryz.f125 [(.vw, tyZf), (.vw, .str)] true .bool
theorem ok_spec_l7There : e_spec_l7There.Ok Tryz.prog := mkE_ok envC (ok_cons ok_spec_l1Below ok_nil) Tryz.func125 (by decide +kernel) (by kernel_rfl)
def h_spec_l7By : List (Nat × Hint) := [(250, .loop ⟨[2, 8, 10, 32, 33], [(9, 2, (.pair (.int .i64) (.pair .str (.pair tyRt (.pair tyRt .unit))))), (34, 0, (.int .i64))]⟩ [(2, ⟨[8], [(9, 2, (.pair (.int .i64) (.pair .str (.pair tyRt (.pair tyRt .unit)))))]⟩)]), (15, .join [(0, ⟨[2, 8], [(9, 2, (.pair (.int .i64) (.pair .str (.pair tyRt (.pair tyRt .unit))))), (10, 0, tyRt)]⟩)])]
noncomputable def e_spec_l7By : Ent := mkE tysC 126 [e_spec_l6Set] h_spec_l7By Tryz.f126 [(.vw, tyZf), (.vw, .str), (.vw, .str), (.vw, (.int .i64))] true (.pair (.int .i64) (.pair .str (.pair tyRt (.pair tyRt .unit))))
theorem ok_spec_l7By : e_spec_l7By.Ok Tryz.prog := mkE_ok envC (ok_cons ok_spec_l6Set ok_nil) Tryz.func126 (by decide +kernel) (by kernel_rfl)
def h_spec_l7Encloser : List (Nat × Hint) := [(12, .loop ⟨[2], [(1, 0, .str)]⟩ [(2, ⟨[], [(1, 0, .str)]⟩)]), (48, .join [(0, ⟨[1, 2], [(14, 0, .bool)]⟩)])]
noncomputable def e_spec_l7Encloser : Ent := mkE tysC 127 [e_spec_l7There, e_spec_l1Parent] h_spec_l7Encloser Tryz.f127 [(.vw, tyZf), (.vw, .str)] true .str
theorem ok_spec_l7Encloser : e_spec_l7Encloser.Ok Tryz.prog := mkE_ok envC (ok_cons ok_spec_l7There (ok_cons ok_spec_l1Parent ok_nil)) Tryz.func127 (by decide +kernel) (by kernel_rfl)
def h_spec_l7Look : List (Nat × Hint) := [(127, .join [(0, ⟨[1, 2, 3, 6, 9], [(10, 0, .str)]⟩)])]
noncomputable def e_spec_l7Look : Ent := mkE tysC 89 [e_spec_l1Below, e_spec_l6Cut, e_spec_l6Set, e_spec_l7There, e_spec_l7By, e_spec_l7Encloser] h_spec_l7Look Tryz.f89 [(.vw, tyZf), (.vw, .str), (.vw, (.int .i64))] true (.pair (.int .i64) (.pair .str (.pair tyRt (.pair tyRt .unit))))
theorem ok_spec_l7Look : e_spec_l7Look.Ok Tryz.prog := mkE_ok envC (ok_cons ok_spec_l1Below (ok_cons ok_spec_l6Cut (ok_cons ok_spec_l6Set (ok_cons ok_spec_l7There (ok_cons ok_spec_l7By (ok_cons ok_spec_l7Encloser ok_nil)))))) Tryz.func89 (by decide +kernel) (by kernel_rfl)
def h_spec_LookUp : List (Nat × Hint) := []
noncomputable def e_spec_LookUp : Ent := mkE tysC 49 [e_spec_l7Ask, e_spec_l7Look] h_spec_LookUp Tryz.f49 [(.vw, tyZf), (.vw, .str), (.vw, (.int .i64))] false (.pair (.pair (.int .i64) (.pair .str (.pair tyRt (.pair tyRt .unit)))) (.pair .bool .unit))
theorem ok_spec_LookUp : e_spec_LookUp.Ok Tryz.prog := mkE_ok envC (ok_cons ok_spec_l7Ask (ok_cons ok_spec_l7Look ok_nil)) Tryz.func49 (by decide +kernel) (by kernel_rfl)
def h_spec_AnswerAt : List (Nat × Hint) := [(6, .join [(0, ⟨[1, 2, 3, 4, 5, 10], [(27, 0, .bool)]⟩)])]
noncomputable def e_spec_AnswerAt : Ent := mkE tysC 13 [e_spec_GoodFleet, e_spec_l1In, e_spec_LookUp] h_spec_AnswerAt Tryz.f13 [(.vw, (.pair (.pair tyZf (.pair (.lst false tyD) (.pair (.int .i64) .unit))) (.pair (.pair .str (.pair (.int .i64) (.pair (.lst false (.pair (.int .i64) (.pair (.int .i64) (.pair tyRf (.pair tyRf .unit))))) .unit))) (.pair (.lst false (.pair tyZf (.pair tyZf .unit))) (.pair (.lst false (.pair (.int .i64) (.pair .bool (.pair tyZf (.pair (.pair (.int .i64) (.pair (.int .i64) (.pair tyRf (.pair tyRf .unit)))) .unit))))) .unit))))), (.vw, (.int .i64)), (.vw, .str), (.vw, (.int .i64)), (.vw, (.int .i64))] false (.pair (.pair (.int .i64) (.pair .str (.pair tyRt (.pair tyRt .unit)))) (.pair .bool (.pair .bool .unit)))
theorem ok_spec_AnswerAt : e_spec_AnswerAt.Ok Tryz.prog := mkE_ok envC (ok_cons ok_spec_GoodFleet (ok_cons ok_spec_l1In (ok_cons ok_spec_LookUp ok_nil))) Tryz.func13 (by decide +kernel) (by kernel_rfl)
def h_impl_within : List (Nat × Hint) := [(3, .join [(0, ⟨[], [(6, 0, .bool)]⟩)])]
noncomputable def e_impl_within : Ent := mkE tysC 38 [] h_impl_within Tryz.f38 [(.vw, (.int .i64)), (.vw, (.int .i64)), (.vw, (.int .i64))] true .bool
theorem ok_impl_within : e_impl_within.Ok Tryz.prog := mkE_ok envC ok_nil Tryz.func38 (by decide +kernel) (by kernel_rfl)
def h_impl_isCounter : List (Nat × Hint) := []
noncomputable def e_impl_isCounter : Ent := mkE tysC 79 [e_impl_within] h_impl_isCounter Tryz.f79 [(.vw, (.int .i64))] true .bool
theorem ok_impl_isCounter : e_impl_isCounter.Ok Tryz.prog := mkE_ok envC (ok_cons ok_impl_within ok_nil) Tryz.func79 (by decide +kernel) (by kernel_rfl)
noncomputable abbrev e_strings_Split : Ent := splitE 147
theorem ok_strings_Split : e_strings_Split.Ok Tryz.prog := splitE_ok Tryz.l146 (by kernel_rfl) Tryz.func147 (by decide +kernel) rfl glbMaxLen
def h_impl_labelsOf : List (Nat × Hint) := []
noncomputable def e_impl_labelsOf : Ent := mkE tysC 110 [e_strings_Split] h_impl_labelsOf Tryz.f110 [(.vw, .str)] true (.lst true .str)
theorem ok_impl_labelsOf : e_impl_labelsOf.Ok Tryz.prog := mkE_ok envC (ok_cons ok_strings_Split ok_nil) Tryz.func110 (by decide +kernel) (by kernel_rfl)
noncomputable abbrev e_strings_Trim : Ent := trimE 149
theorem ok_strings_Trim : e_strings_Trim.Ok Tryz.prog := trimE_ok Tryz.l160 (by kernel_rfl) (by kernel_rfl) Tryz.func149 (by decide +kernel) rfl
def h_impl_isLabel : List (Nat × Hint) := [(7, .join [(0, ⟨[], [(2, 0, .bool)]⟩)])]
noncomputable def e_impl_isLabel : Ent := mkE tysC 113 [e_impl_within, e_strings_Trim] h_impl_isLabel Tryz.f113 [(.vw, .str)] true .bool
theorem ok_impl_isLabel : e_impl_isLabel.Ok Tryz.prog := mkE_ok envC (ok_cons ok_impl_within (ok_cons ok_strings_Trim ok_nil)) Tryz.func113 (by decide +kernel) (by kernel_rfl)
def h_impl_GoodName_1 : List (Nat × Hint) := []
noncomputable def e_impl_GoodName_1 : Ent := mkE tysC 112 [e_impl_isLabel] h_impl_GoodName_1 Tryz.f112 [(.vw, .str)] true .bool
theorem ok_impl_GoodName_1 : e_impl_GoodName_1.Ok Tryz.prog := mkE_ok envC (ok_cons ok_impl_isLabel ok_nil) Tryz.func112 (by decide +kernel) (by kernel_rfl)
def h_slices_IndexFunc_string_string__impl_GoodName_1 : List (Nat × Hint) := [(26, .loop ⟨[0, 1, 7], [(8, 0, (.int .i64))]⟩ [(1, ⟨[], [(4, 0, (.int .i64))]⟩), (2, ⟨[], []⟩)])]
noncomputable def e_slices_IndexFunc_string_string__impl_GoodName_1 : Ent := mkE tysC 148 [e_impl_GoodName_1] h_slices_IndexFunc_string_string__impl_GoodName_1 Tryz.f148 [(.vw, (.lst false .str)), (.vw, (.fn 112 .unit))] true (.int .i64)
theorem ok_slices_IndexFunc_string_string__impl_GoodName_1 : e_slices_IndexFunc_string_string__impl_GoodName_1.Ok Tryz.prog := mkE_ok envC (ok_cons ok_impl_GoodName_1 ok_nil) Tryz.func148 (by decide +kernel) (by kernel_rfl)
def h_slices_ContainsFunc_string_string__impl_GoodName_1 : List (Nat × Hint) := []
noncomputable def e_slices_ContainsFunc_string_string__impl_GoodName_1 : Ent := mkE tysC 111 [e_slices_IndexFunc_string_string__impl_GoodName_1] h_slices_ContainsFunc_string_string__impl_GoodName_1 Tryz.f111 [(.vw, (.lst false .str)), (.vw, (.fn 112 .unit))] true .bool
theorem ok_slices_ContainsFunc_string_string__impl_GoodName_1 : e_slices_ContainsFunc_string_string__impl_GoodName_1.Ok Tryz.prog := mkE_ok envC (ok_cons ok_slices_IndexFunc_string_string__impl_GoodName_1 ok_nil) Tryz.func111 (by decide +kernel) (by kernel_rfl)
def h_impl_GoodName : List (Nat × Hint) := [(15, .join [(0, ⟨[], [(2, 0, .bool)]⟩)])]
noncomputable def e_impl_GoodName : Ent := mkE tysC 78 [e_impl_labelsOf, e_slices_ContainsFunc_string_string__impl_GoodName_1] h_impl_GoodName Tryz.f78 [(.vw, .str)] true .bool
theorem ok_impl_GoodName : e_impl_GoodName.Ok Tryz.prog := mkE_ok envC (ok_cons ok_impl_labelsOf (ok_cons ok_slices_ContainsFunc_string_string__impl_GoodName_1 ok_nil)) Tryz.func78 (by decide +kernel) (by kernel_rfl)
noncomputable abbrev e_strings_Contains : Ent := containsE 181
theorem ok_strings_Contains : e_strings_Contains.Ok Tryz.prog := containsE_ok Tryz.l144 (by kernel_rfl) Tryz.func181 (by decide +kernel) rfl glbMaxLen
def h_impl_isApex : List (Nat × Hint) := [(3, .join [(0, ⟨[], [(2, 0, .bool)]⟩)])]
noncomputable def e_impl_isApex : Ent := mkE tysC 164 [e_impl_GoodName, e_strings_Contains] h_impl_isApex Tryz.f164 [(.vw, .str)] true .bool
theorem ok_impl_isApex : e_impl_isApex.Ok Tryz.prog := mkE_ok envC (ok_cons ok_impl_GoodName (ok_cons ok_strings_Contains ok_nil)) Tryz.func164 (by decide +kernel) (by kernel_rfl)
noncomputable abbrev e_strconv_Atoi : Ent := atoiE 227
theorem ok_strconv_Atoi : e_strconv_Atoi.Ok Tryz.prog := atoiE_ok Tryz.l172 (by kernel_rfl) Tryz.func227 (by decide +kernel) rfl glbSyn glbRng
noncomputable abbrev e_strconv_Itoa : Ent := itoaE 146
theorem ok_strconv_Itoa : e_strconv_Itoa.Ok Tryz.prog := itoaE_ok Tryz.l171 (by kernel_rfl) Tryz.func146 (by decide +kernel) rfl (by kernel_rfl) glbPow
def h_impl_numberIn : List (Nat × Hint) := [(7, .join [(0, ⟨[], [(4, 0, (.int .i64)), (5, 0, .bool)]⟩)])]
noncomputable def e_impl_numberIn : Ent := mkE tysC 207 [e_strconv_Atoi, e_impl_within, e_strconv_Itoa] h_impl_numberIn Tryz.f207 [(.vw, .str), (.vw, (.int .i64))] false (.pair (.int .i64) (.pair .bool .unit))
theorem ok_impl_numberIn : e_impl_numberIn.Ok Tryz.prog := mkE_ok envC (ok_cons ok_strconv_Atoi (ok_cons ok_impl_within (ok_cons ok_strconv_Itoa ok_nil))) Tryz.func207 (by decide +kernel) (by kernel_rfl)
def h_impl_big : List (Nat × Hint) := [(58, .loop ⟨[0], [(5, 0, (.lst true (.int .u8))), (6, 0, (.int .i64))]⟩ [(2, ⟨[], [(5, 0, (.lst true (.int .u8)))]⟩)])]
noncomputable def e_impl_big : Ent := mkE tysC 208 [] h_impl_big Tryz.f208 [(.vw, (.int .i64)), (.vw, (.int .i64))] true .str
theorem ok_impl_big : e_impl_big.Ok Tryz.prog := mkE_ok envC ok_nil Tryz.func208 (by decide +kernel) (by kernel_rfl)
def h_impl_isTarget : List (Nat × Hint) := [(3, .join [(0, ⟨[], [(2, 0, .bool)]⟩)])]
noncomputable def e_impl_isTarget : Ent := mkE tysC 209 [e_impl_GoodName, e_strings_Contains] h_impl_isTarget Tryz.f209 [(.vw, .str)] true .bool
theorem ok_impl_isTarget : e_impl_isTarget.Ok Tryz.prog := mkE_ok envC (ok_cons ok_impl_GoodName (ok_cons ok_strings_Contains ok_nil)) Tryz.func209 (by decide +kernel) (by kernel_rfl)
def h_impl_labelBytes : List (Nat × Hint) := [(58, .loop ⟨[7, 8], [(3, 0, .str), (9, 0, (.int .i64))]⟩ [(2, ⟨[], [(3, 0, .str)]⟩)])]
noncomputable def e_impl_labelBytes : Ent := mkE tysC 210 [e_impl_labelsOf] h_impl_labelBytes Tryz.f210 [(.vw, .str)] true .str
theorem ok_impl_labelBytes : e_impl_labelBytes.Ok Tryz.prog := mkE_ok envC (ok_cons ok_impl_labelsOf ok_nil) Tryz.func210 (by decide +kernel) (by kernel_rfl)
noncomputable abbrev e_strings_Cut : Ent := cutE 180
theorem ok_strings_Cut : e_strings_Cut.Ok Tryz.prog := cutE_ok Tryz.l145 (by kernel_rfl) Tryz.func180 (by decide +kernel) rfl glbMaxLen
def h_impl_DataBytes_1 : List (Nat × Hint) := [(3, .join [(0, ⟨[], [(2, 0, .bool)]⟩)])]
noncomputable def e_impl_DataBytes_1 : Ent := mkE tysC 212 [] h_impl_DataBytes_1 Tryz.f212 [(.vw, (.int .u8))] true .bool
theorem ok_impl_DataBytes_1 : e_impl_DataBytes_1.Ok Tryz.prog := mkE_ok envC ok_nil Tryz.func212 (by decide +kernel) (by kernel_rfl)
def h_slices_IndexFunc_byte_byte__impl_DataBytes_1 : List (Nat × Hint) := [(26, .loop ⟨[0, 1, 7], [(8, 0, (.int .i64))]⟩ [(1, ⟨[], [(4, 0, (.int .i64))]⟩), (2, ⟨[], []⟩)])]
noncomputable def e_slices_IndexFunc_byte_byte__impl_DataBytes_1 : Ent := mkE tysC 228 [e_impl_DataBytes_1] h_slices_IndexFunc_byte_byte__impl_DataBytes_1 Tryz.f228 [(.vw, (.lst false (.int .u8))), (.vw, (.fn 212 .unit))] true (.int .i64)
theorem ok_slices_IndexFunc_byte_byte__impl_DataBytes_1 : e_slices_IndexFunc_byte_byte__impl_DataBytes_1.Ok Tryz.prog := mkE_ok envC (ok_cons ok_impl_DataBytes_1 ok_nil) Tryz.func228 (by decide +kernel) (by kernel_rfl)
def h_slices_ContainsFunc_byte_byte__impl_DataBytes_1 : List (Nat × Hint) := []
noncomputable def e_slices_ContainsFunc_byte_byte__impl_DataBytes_1 : Ent := mkE tysC 211 [e_slices_IndexFunc_byte_byte__impl_DataBytes_1] h_slices_ContainsFunc_byte_byte__impl_DataBytes_1 Tryz.f211 [(.vw, (.lst false (.int .u8))), (.vw, (.fn 212 .unit))] true .bool
theorem ok_slices_ContainsFunc_byte_byte__impl_DataBytes_1 : e_slices_ContainsFunc_byte_byte__impl_DataBytes_1.Ok Tryz.prog := mkE_ok envC (ok_cons ok_slices_IndexFunc_byte_byte__impl_DataBytes_1 ok_nil) Tryz.func211 (by decide +kernel) (by kernel_rfl)
def h_impl_DataBytes : List (Nat × Hint) := [(55292, .join [(0, ⟨[1], [(103, 0, .bool)]⟩)]), (55286, .join [(0, ⟨[15, 17], [(87, 0, .bool)]⟩)]), (107, .join [(0, ⟨[1, 19], [(48, 0, .bool)]⟩)]), (3418, .loop ⟨[7, 24, 25], [(6, 0, .str), (26, 0, (.int .i64))]⟩ [(1, ⟨[4, 5], []⟩), (3, ⟨[], [(6, 0, .str)]⟩)]), (875110, .join [(0, ⟨[6, 7, 10, 24, 25, 26], [(41, 0, .bool)]⟩)])]
noncomputable def e_impl_DataBytes : Ent := mkE tysC 190 [e_strings_Split, e_impl_numberIn, e_impl_big, e_impl_isTarget, e_impl_labelBytes, e_strings_Cut, e_slices_ContainsFunc_byte_byte__impl_DataBytes_1] h_impl_DataBytes Tryz.f190 [(.vw, (.int .i64)), (.vw, .str)] false (.pair .str (.pair .bool .unit))
theorem ok_impl_DataBytes : e_impl_DataBytes.Ok Tryz.prog := mkE_ok envC (ok_cons ok_strings_Split (ok_cons ok_impl_numberIn (ok_cons ok_impl_big (ok_cons ok_impl_isTarget (ok_cons ok_impl_labelBytes (ok_cons ok_strings_Cut (ok_cons ok_slices_ContainsFunc_byte_byte__impl_DataBytes_1 ok_nil))))))) Tryz.func190 (by decide +kernel) (by kernel_rfl)
def h_impl_GoodRecord : List (Nat × Hint) := [(6, .join [(0, ⟨[1], [(20, 0, .bool)]⟩)])]
noncomputable def e_impl_GoodRecord : Ent := mkE tysC 176 [e_impl_GoodName, e_impl_within, e_impl_DataBytes] h_impl_GoodRecord Tryz.f176 [(.vw, tyR)] true .bool
theorem ok_impl_GoodRecord : e_impl_GoodRecord.Ok Tryz.prog := mkE_ok envC (ok_cons ok_impl_GoodName (ok_cons ok_impl_within (ok_cons ok_impl_DataBytes ok_nil))) Tryz.func176 (by decide +kernel) (by kernel_rfl)
def h_slices_Reverse_string_string : List (Nat × Hint) := [(6, .loop ⟨[], [(0, 0, (.lst true .str)), (2, 0, (.int .i64)), (3, 0, (.int .i64))]⟩ [(2, ⟨[], [(0, 0, (.lst true .str))]⟩)])]
noncomputable def e_slices_Reverse_string_string : Ent := mkE tysC 229 [] h_slices_Reverse_string_string Tryz.f229 [(.io, (.lst true .str))] false .unit
theorem ok_slices_Reverse_string_string : e_slices_Reverse_string_string.Ok Tryz.prog := mkE_ok envC ok_nil Tryz.func229 (by decide +kernel) (by kernel_rfl)
def h_cmp_isNaN_string : List (Nat × Hint) := []
noncomputable def e_cmp_isNaN_string : Ent := mkE tysC 244 [] h_cmp_isNaN_string Tryz.f244 [(.vw, .str)] true .bool
theorem ok_cmp_isNaN_string : e_cmp_isNaN_string.Ok Tryz.prog := mkE_ok envC ok_nil Tryz.func244 (by decide +kernel) (by kernel_rfl)
def h_cmp_Compare_string : List (Nat × Hint) := []
noncomputable def e_cmp_Compare_string : Ent := mkE tysC 238 [e_cmp_isNaN_string] h_cmp_Compare_string Tryz.f238 [(.vw, .str), (.vw, .str)] true (.int .i64)
theorem ok_cmp_Compare_string : e_cmp_Compare_string.Ok Tryz.prog := mkE_ok envC (ok_cons ok_cmp_isNaN_string ok_nil) Tryz.func238 (by decide +kernel) (by kernel_rfl)
def h_slices_Compare_string_string : List (Nat × Hint) := [(26, .loop ⟨[0, 1, 9, 10], [(11, 0, (.int .i64))]⟩ [(1, ⟨[], [(4, 0, (.int .i64))]⟩), (2, ⟨[0, 1], []⟩)])]
noncomputable def e_slices_Compare_string_string : Ent := mkE tysC 230 [e_cmp_Compare_string] h_slices_Compare_string_string Tryz.f230 [(.vw, (.lst false .str)), (.vw, (.lst false .str))] true (.int .i64)
theorem ok_slices_Compare_string_string : e_slices_Compare_string_string.Ok Tryz.prog := mkE_ok envC (ok_cons ok_cmp_Compare_string ok_nil) Tryz.func230 (by decide +kernel) (by kernel_rfl)
def h_impl_compareNames : List (Nat × Hint) := []
noncomputable def e_impl_compareNames : Ent := mkE tysC 213 [e_impl_labelsOf, e_slices_Reverse_string_string, e_slices_Compare_string_string] h_impl_compareNames Tryz.f213 [(.vw, .str), (.vw, .str)] true (.int .i64)
theorem ok_impl_compareNames : e_impl_compareNames.Ok Tryz.prog := mkE_ok envC (ok_cons ok_impl_labelsOf (ok_cons ok_slices_Reverse_string_string (ok_cons ok_slices_Compare_string_string ok_nil))) Tryz.func213 (by decide +kernel) (by kernel_rfl)
def h_cmp_isNaN_int : List (Nat × Hint) := []
noncomputable def e_cmp_isNaN_int : Ent := mkE tysC 215 [] h_cmp_isNaN_int Tryz.f215 [(.vw, (.int .i64))] true .bool
theorem ok_cmp_isNaN_int : e_cmp_isNaN_int.Ok Tryz.prog := mkE_ok envC ok_nil Tryz.func215 (by decide +kernel) (by kernel_rfl)
def h_cmp_Compare_int : List (Nat × Hint) := []
noncomputable def e_cmp_Compare_int : Ent := mkE tysC 195 [e_cmp_isNaN_int] h_cmp_Compare_int Tryz.f195 [(.vw, (.int .i64)), (.vw, (.int .i64))] true (.int .i64)
theorem ok_cmp_Compare_int : e_cmp_Compare_int.Ok Tryz.prog := mkE_ok envC (ok_cons ok_cmp_isNaN_int ok_nil) Tryz.func195 (by decide +kernel) (by kernel_rfl)
def h_cmp_Or_int : List (Nat × Hint) := [(58, .loop ⟨[3, 6, 7], [(8, 0, (.int .i64))]⟩ [(1, ⟨[], [(2, 0, (.int .i64))]⟩), (2, ⟨[3], []⟩)])]
noncomputable def e_cmp_Or_int : Ent := mkE tysC 191 [] h_cmp_Or_int Tryz.f191 [(.vw, (.lst false (.int .i64)))] true (.int .i64)
theorem ok_cmp_Or_int : e_cmp_Or_int.Ok Tryz.prog := mkE_ok envC ok_nil Tryz.func191 (by decide +kernel) (by kernel_rfl)
def h_impl_compareKeys : List (Nat × Hint) := []
noncomputable def e_impl_compareKeys : Ent := mkE tysC 192 [e_impl_compareNames, e_cmp_Compare_int, e_cmp_Or_int] h_impl_compareKeys Tryz.f192 [(.vw, tyR), (.vw, tyR)] true (.int .i64)
theorem ok_impl_compareKeys : e_impl_compareKeys.Ok Tryz.prog := mkE_ok envC (ok_cons ok_impl_compareNames (ok_cons ok_cmp_Compare_int (ok_cons ok_cmp_Or_int ok_nil))) Tryz.func192 (by decide +kernel) (by kernel_rfl)
def h_impl_dataBytes : List (Nat × Hint) := []
noncomputable def e_impl_dataBytes : Ent := mkE tysC 194 [e_impl_DataBytes] h_impl_dataBytes Tryz.f194 [(.vw, (.int .i64)), (.vw, .str)] true .str
theorem ok_impl_dataBytes : e_impl_dataBytes.Ok Tryz.prog := mkE_ok envC (ok_cons ok_impl_DataBytes ok_nil) Tryz.func194 (by decide +kernel) (by kernel_rfl)
noncomputable abbrev e_strings_Compare : Ent := compareE 193
theorem ok_strings_Compare : e_strings_Compare.Ok Tryz.prog := compareE_ok Tryz.l106 (by kernel_rfl) Tryz.func193 (by decide +kernel) rfl
def h_impl_compareRecords : List (Nat × Hint) := []
noncomputable def e_impl_compareRecords : Ent := mkE tysC 177 [e_impl_compareKeys, e_impl_dataBytes, e_strings_Compare, e_cmp_Compare_int, e_cmp_Or_int] h_impl_compareRecords Tryz.f177 [(.vw, tyR), (.vw, tyR)] true (.int .i64)
theorem ok_impl_compareRecords : e_impl_compareRecords.Ok Tryz.prog := mkE_ok envC (ok_cons ok_impl_compareKeys (ok_cons ok_impl_dataBytes (ok_cons ok_strings_Compare (ok_cons ok_cmp_Compare_int (ok_cons ok_cmp_Or_int ok_nil))))) Tryz.func177 (by decide +kernel) (by kernel_rfl)
def h_impl_areRising : List (Nat × Hint) := [(26, .loop ⟨[0, 5, 6], [(7, 0, (.int .i64))]⟩ [(1, ⟨[2], []⟩), (2, ⟨[], []⟩)]), (1689, .join [(0, ⟨[0, 5, 6, 7], [(28, 0, .bool)]⟩)])]
noncomputable def e_impl_areRising : Ent := mkE tysC 150 [e_impl_GoodRecord, e_impl_compareRecords] h_impl_areRising Tryz.f150 [(.vw, tyRf)] true .bool
theorem ok_impl_areRising : e_impl_areRising.Ok Tryz.prog := mkE_ok envC (ok_cons ok_impl_GoodRecord (ok_cons ok_impl_compareRecords ok_nil)) Tryz.func150 (by decide +kernel) (by kernel_rfl)
def h_impl_isWhole : List (Nat × Hint) := [(3, .join [(0, ⟨[], [(4, 0, .bool)]⟩)])]
noncomputable def e_impl_isWhole : Ent := mkE tysC 143 [e_impl_isApex, e_impl_areRising] h_impl_isWhole Tryz.f143 [(.vw, .str), (.vw, tyRf)] true .bool
theorem ok_impl_isWhole : e_impl_isWhole.Ok Tryz.prog := mkE_ok envC (ok_cons ok_impl_isApex (ok_cons ok_impl_areRising ok_nil)) Tryz.func143 (by decide +kernel) (by kernel_rfl)
def h_internal_stringslite_HasSuffix : List (Nat × Hint) := [(3, .join [(0, ⟨[], [(4, 0, .bool)]⟩)])]
noncomputable def e_internal_stringslite_HasSuffix : Ent := mkE tysC 179 [] h_internal_stringslite_HasSuffix Tryz.f179 [(.vw, .str), (.vw, .str)] true .bool
theorem ok_internal_stringslite_HasSuffix : e_internal_stringslite_HasSuffix.Ok Tryz.prog := mkE_ok envC ok_nil Tryz.func179 (by decide +kernel) (by kernel_rfl)
def h_strings_HasSuffix : List (Nat × Hint) := []
noncomputable def e_strings_HasSuffix : Ent := mkE tysC 157 [e_internal_stringslite_HasSuffix] h_strings_HasSuffix Tryz.f157 [(.vw, .str), (.vw, .str)] true .bool
theorem ok_strings_HasSuffix : e_strings_HasSuffix.Ok Tryz.prog := mkE_ok envC (ok_cons ok_internal_stringslite_HasSuffix ok_nil) Tryz.func157 (by decide +kernel) (by kernel_rfl)
def h_impl_isBelow : List (Nat × Hint) := [(3, .join [(0, ⟨[], [(4, 0, .bool)]⟩)])]
noncomputable def e_impl_isBelow : Ent := mkE tysC 129 [e_strings_HasSuffix] h_impl_isBelow Tryz.f129 [(.vw, .str), (.vw, .str)] true .bool
theorem ok_impl_isBelow : e_impl_isBelow.Ok Tryz.prog := mkE_ok envC (ok_cons ok_strings_HasSuffix ok_nil) Tryz.func129 (by decide +kernel) (by kernel_rfl)
def h_impl_at : List (Nat × Hint) := [(58, .loop ⟨[1, 2, 11, 12], [(7, 0, tyRt), (13, 0, (.int .i64))]⟩ [(2, ⟨[], [(7, 0, tyRt)]⟩)]), (467, .join [(0, ⟨[1, 2, 11, 12, 13], [(7, 0, tyRt)]⟩)]), (3737, .join [(0, ⟨[1, 2, 7, 9, 11, 12, 13], [(30, 0, .bool)]⟩)]), (0, .frz [6])]
noncomputable def e_impl_at : Ent := mkE tysC 108 [] h_impl_at Tryz.f108 [(.vw, tyRf), (.vw, .str), (.vw, (.int .i64))] true tyRt
theorem ok_impl_at : e_impl_at.Ok Tryz.prog := mkE_ok envC ok_nil Tryz.func108 (by decide +kernel) (by kernel_rfl)
def h_impl_breaks_1 : List (Nat × Hint) := [(3, .join [(0, ⟨[], [(3, 0, .bool)]⟩)])]
noncomputable def e_impl_breaks_1 : Ent := mkE tysC 165 [] h_impl_breaks_1 Tryz.f165 [(.vw, tyR), (.vw, (.ptr tyR))] true .bool
theorem ok_impl_breaks_1 : e_impl_breaks_1.Ok Tryz.prog := mkE_ok envC ok_nil Tryz.func165 (by decide +kernel) (by kernel_rfl)
def h_slices_IndexFunc_impl_Record_impl_Record__impl_breaks_1 : List (Nat × Hint) := [(26, .loop ⟨[0, 1, 7], [(8, 0, (.int .i64))]⟩ [(1, ⟨[], [(4, 0, (.int .i64))]⟩), (2, ⟨[], []⟩)])]
noncomputable def e_slices_IndexFunc_impl_Record_impl_Record__impl_breaks_1 : Ent := mkE tysC 151 [e_impl_breaks_1] h_slices_IndexFunc_impl_Record_impl_Record__impl_breaks_1 Tryz.f151 [(.vw, tyRf), (.vw, (.fn 165 (.pair (.ptr tyR) .unit)))] true (.int .i64)
theorem ok_slices_IndexFunc_impl_Record_impl_Record__impl_breaks_1 : e_slices_IndexFunc_impl_Record_impl_Record__impl_breaks_1.Ok Tryz.prog := mkE_ok envC (ok_cons ok_impl_breaks_1 ok_nil) Tryz.func151 (by decide +kernel) (by kernel_rfl)
def h_slices_ContainsFunc_impl_Record_impl_Record__impl_breaks_1 : List (Nat × Hint) := []
noncomputable def e_slices_ContainsFunc_impl_Record_impl_Record__impl_breaks_1 : Ent := mkE tysC 115 [e_slices_IndexFunc_impl_Record_impl_Record__impl_breaks_1] h_slices_ContainsFunc_impl_Record_impl_Record__impl_breaks_1 Tryz.f115 [(.vw, tyRf), (.vw, (.fn 165 (.pair (.ptr tyR) .unit)))] true .bool
theorem ok_slices_ContainsFunc_impl_Record_impl_Record__impl_breaks_1 : e_slices_ContainsFunc_impl_Record_impl_Record__impl_breaks_1.Ok Tryz.prog := mkE_ok envC (ok_cons ok_slices_IndexFunc_impl_Record_impl_Record__impl_breaks_1 ok_nil) Tryz.func115 (by decide +kernel) (by kernel_rfl)
def h_impl_breaks_2 : List (Nat × Hint) := [(7, .join [(0, ⟨[], [(4, 0, .bool)]⟩)]), (3, .join [(0, ⟨[2, 3], [(5, 0, .bool)]⟩)])]
noncomputable def e_impl_breaks_2 : Ent := mkE tysC 166 [e_impl_isBelow] h_impl_breaks_2 Tryz.f166 [(.vw, tyR), (.vw, (.ptr .str)), (.vw, (.ptr tyR))] true .bool
theorem ok_impl_breaks_2 : e_impl_breaks_2.Ok Tryz.prog := mkE_ok envC (ok_cons ok_impl_isBelow ok_nil) Tryz.func166 (by decide +kernel) (by kernel_rfl)
def h_slices_IndexFunc_impl_Record_impl_Record__impl_breaks_2 : List (Nat × Hint) := [(26, .loop ⟨[0, 1, 7], [(8, 0, (.int .i64))]⟩ [(1, ⟨[], [(4, 0, (.int .i64))]⟩), (2, ⟨[], []⟩)])]
noncomputable def e_slices_IndexFunc_impl_Record_impl_Record__impl_breaks_2 : Ent := mkE tysC 151 [e_impl_breaks_2] h_slices_IndexFunc_impl_Record_impl_Record__impl_breaks_2 Tryz.f151 [(.vw, tyRf), (.vw, (.fn 166 (.pair (.ptr .str) (.pair (.ptr tyR) .unit))))] true (.int .i64)
theorem ok_slices_IndexFunc_impl_Record_impl_Record__impl_breaks_2 : e_slices_IndexFunc_impl_Record_impl_Record__impl_breaks_2.Ok Tryz.prog := mkE_ok envC (ok_cons ok_impl_breaks_2 ok_nil) Tryz.func151 (by decide +kernel) (by kernel_rfl)
def h_slices_ContainsFunc_impl_Record_impl_Record__impl_breaks_2 : List (Nat × Hint) := []
noncomputable def e_slices_ContainsFunc_impl_Record_impl_Record__impl_breaks_2 : Ent := mkE tysC 115 [e_slices_IndexFunc_impl_Record_impl_Record__impl_breaks_2] h_slices_ContainsFunc_impl_Record_impl_Record__impl_breaks_2 Tryz.f115 [(.vw, tyRf), (.vw, (.fn 166 (.pair (.ptr .str) (.pair (.ptr tyR) .unit))))] true .bool
theorem ok_slices_ContainsFunc_impl_Record_impl_Record__impl_breaks_2 : e_slices_ContainsFunc_impl_Record_impl_Record__impl_breaks_2.Ok Tryz.prog := mkE_ok envC (ok_cons ok_slices_IndexFunc_impl_Record_impl_Record__impl_breaks_2 ok_nil) Tryz.func115 (by decide +kernel) (by kernel_rfl)
def h_impl_breaks : List (Nat × Hint) := [(27646, .join [(0, ⟨[], [(8, 0, .bool)]⟩)]), (6910, .join [(0, ⟨[], [(8, 0, .bool)]⟩)]), (430, .join [(0, ⟨[], [(8, 0, .bool)]⟩)])]
noncomputable def e_impl_breaks : Ent := mkE tysC 145 [e_impl_isBelow, e_impl_at, e_slices_ContainsFunc_impl_Record_impl_Record__impl_breaks_1, e_slices_ContainsFunc_impl_Record_impl_Record__impl_breaks_2] h_impl_breaks Tryz.f145 [(.vw, .str), (.vw, tyRf), (.vw, tyR), (.vw, (.int .i64))] true .bool
theorem ok_impl_breaks : e_impl_breaks.Ok Tryz.prog := mkE_ok envC (ok_cons ok_impl_isBelow (ok_cons ok_impl_at (ok_cons ok_slices_ContainsFunc_impl_Record_impl_Record__impl_breaks_1 (ok_cons ok_slices_ContainsFunc_impl_Record_impl_Record__impl_breaks_2 ok_nil)))) Tryz.func145 (by decide +kernel) (by kernel_rfl)
def h_impl_RuleOf_1 : List (Nat × Hint) := []
noncomputable def e_impl_RuleOf_1 : Ent := mkE tysC 144 [e_impl_breaks] h_impl_RuleOf_1 Tryz.f144 [(.vw, tyR), (.vw, (.ptr .str)), (.vw, (.ptr tyRf)), (.vw, (.ptr (.int .i64)))] true .bool
theorem ok_impl_RuleOf_1 : e_impl_RuleOf_1.Ok Tryz.prog := mkE_ok envC (ok_cons ok_impl_breaks ok_nil) Tryz.func144 (by decide +kernel) (by kernel_rfl)
def h_slices_IndexFunc_impl_Record_impl_Record__impl_RuleOf_1 : List (Nat × Hint) := [(26, .loop ⟨[0, 1, 7], [(8, 0, (.int .i64))]⟩ [(1, ⟨[], [(4, 0, (.int .i64))]⟩), (2, ⟨[], []⟩)])]
noncomputable def e_slices_IndexFunc_impl_Record_impl_Record__impl_RuleOf_1 : Ent := mkE tysC 151 [e_impl_RuleOf_1] h_slices_IndexFunc_impl_Record_impl_Record__impl_RuleOf_1 Tryz.f151 [(.vw, tyRf), (.vw, (.fn 144 (.pair (.ptr .str) (.pair (.ptr tyRf) (.pair (.ptr (.int .i64)) .unit)))))] true (.int .i64)
theorem ok_slices_IndexFunc_impl_Record_impl_Record__impl_RuleOf_1 : e_slices_IndexFunc_impl_Record_impl_Record__impl_RuleOf_1.Ok Tryz.prog := mkE_ok envC (ok_cons ok_impl_RuleOf_1 ok_nil) Tryz.func151 (by decide +kernel) (by kernel_rfl)
def h_slices_ContainsFunc_impl_Record_impl_Record__impl_RuleOf_1 : List (Nat × Hint) := []
noncomputable def e_slices_ContainsFunc_impl_Record_impl_Record__impl_RuleOf_1 : Ent := mkE tysC 115 [e_slices_IndexFunc_impl_Record_impl_Record__impl_RuleOf_1] h_slices_ContainsFunc_impl_Record_impl_Record__impl_RuleOf_1 Tryz.f115 [(.vw, tyRf), (.vw, (.fn 144 (.pair (.ptr .str) (.pair (.ptr tyRf) (.pair (.ptr (.int .i64)) .unit)))))] true .bool
theorem ok_slices_ContainsFunc_impl_Record_impl_Record__impl_RuleOf_1 : e_slices_ContainsFunc_impl_Record_impl_Record__impl_RuleOf_1.Ok Tryz.prog := mkE_ok envC (ok_cons ok_slices_IndexFunc_impl_Record_impl_Record__impl_RuleOf_1 ok_nil) Tryz.func115 (by decide +kernel) (by kernel_rfl)
def h_impl_RuleOf : List (Nat × Hint) := [(58, .loop ⟨[2, 3], [(5, 2, (.int .i64))]⟩ [(1, ⟨[], [(4, 0, (.int .i64))]⟩), (2, ⟨[], []⟩)]), (932, .join [(0, ⟨[2, 3, 5], [(27, 0, .bool)]⟩)])]
noncomputable def e_impl_RuleOf : Ent := mkE tysC 107 [e_impl_isWhole, e_slices_ContainsFunc_impl_Record_impl_Record__impl_RuleOf_1, e_impl_at] h_impl_RuleOf Tryz.f107 [(.vw, .str), (.vw, tyRf)] true (.int .i64)
theorem ok_impl_RuleOf : e_impl_RuleOf.Ok Tryz.prog := mkE_ok envC (ok_cons ok_impl_isWhole (ok_cons ok_slices_ContainsFunc_impl_Record_impl_Record__impl_RuleOf_1 (ok_cons ok_impl_at ok_nil))) Tryz.func107 (by decide +kernel) (by kernel_rfl)
def h_impl_serialText : List (Nat × Hint) := []
noncomputable def e_impl_serialText : Ent := mkE tysC 109 [e_strconv_Itoa] h_impl_serialText Tryz.f109 [(.vw, (.int .i64))] true .str
theorem ok_impl_serialText : e_impl_serialText.Ok Tryz.prog := mkE_ok envC (ok_cons ok_strconv_Itoa ok_nil) Tryz.func109 (by decide +kernel) (by kernel_rfl)
def h_impl_GoodZone : List (Nat × Hint) := [(3, .join [(0, ⟨[], [(2, 0, .bool)]⟩)])]
noncomputable def e_impl_GoodZone : Ent := mkE tysC 75 [e_impl_isCounter, e_impl_RuleOf, e_impl_at, e_impl_serialText] h_impl_GoodZone Tryz.f75 [(.vw, tyZf)] true .bool
theorem ok_impl_GoodZone : e_impl_GoodZone.Ok Tryz.prog := mkE_ok envC (ok_cons ok_impl_isCounter (ok_cons ok_impl_RuleOf (ok_cons ok_impl_at (ok_cons ok_impl_serialText ok_nil)))) Tryz.func75 (by decide +kernel) (by kernel_rfl)
def h_impl_isClient : List (Nat × Hint) := [(3, .join [(0, ⟨[], [(4, 0, .bool)]⟩)])]
noncomputable def e_impl_isClient : Ent := mkE tysC 76 [e_impl_within] h_impl_isClient Tryz.f76 [(.vw, (.int .i64)), (.vw, (.int .i64))] true .bool
theorem ok_impl_isClient : e_impl_isClient.Ok Tryz.prog := mkE_ok envC (ok_cons ok_impl_within ok_nil) Tryz.func76 (by decide +kernel) (by kernel_rfl)
def h_impl_isSerial : List (Nat × Hint) := []
noncomputable def e_impl_isSerial : Ent := mkE tysC 77 [e_impl_within] h_impl_isSerial Tryz.f77 [(.vw, (.int .i64))] true .bool
theorem ok_impl_isSerial : e_impl_isSerial.Ok Tryz.prog := mkE_ok envC (ok_cons ok_impl_within ok_nil) Tryz.func77 (by decide +kernel) (by kernel_rfl)
def h_impl_GoodControl : List (Nat × Hint) := [(58, .loop ⟨[1, 22, 23], [(24, 0, (.int .i64))]⟩ [(1, ⟨[], [(2, 0, .bool)]⟩), (2, ⟨[], []⟩)]), (3737, .join [(0, ⟨[1, 22, 23, 24], [(62, 0, .bool)]⟩)]), (6, .join [(0, ⟨[1], [(20, 0, .bool)]⟩)])]
noncomputable def e_impl_GoodControl : Ent := mkE tysC 35 [e_impl_GoodZone, e_impl_within, e_impl_isClient, e_impl_isSerial] h_impl_GoodControl Tryz.f35 [(.vw, (.pair tyZf (.pair (.lst false tyD) (.pair (.int .i64) .unit))))] true .bool
theorem ok_impl_GoodControl : e_impl_GoodControl.Ok Tryz.prog := mkE_ok envC (ok_cons ok_impl_GoodZone (ok_cons ok_impl_within (ok_cons ok_impl_isClient (ok_cons ok_impl_isSerial ok_nil)))) Tryz.func35 (by decide +kernel) (by kernel_rfl)
def h_impl_isDiff : List (Nat × Hint) := [(3, .join [(0, ⟨[], [(2, 0, .bool)]⟩)])]
noncomputable def e_impl_isDiff : Ent := mkE tysC 114 [e_impl_isCounter, e_impl_areRising] h_impl_isDiff Tryz.f114 [(.vw, (.pair (.int .i64) (.pair (.int .i64) (.pair tyRf (.pair tyRf .unit)))))] true .bool
theorem ok_impl_isDiff : e_impl_isDiff.Ok Tryz.prog := mkE_ok envC (ok_cons ok_impl_isCounter (ok_cons ok_impl_areRising ok_nil)) Tryz.func114 (by decide +kernel) (by kernel_rfl)
def h_slices_Index_impl_Record_impl_Record : List (Nat × Hint) := [(26, .loop ⟨[0, 3, 7], [(8, 0, (.int .i64))]⟩ [(1, ⟨[], [(4, 0, (.int .i64))]⟩), (2, ⟨[], []⟩)])]
noncomputable def e_slices_Index_impl_Record_impl_Record : Ent := mkE tysC 152 [] h_slices_Index_impl_Record_impl_Record Tryz.f152 [(.vw, tyRf), (.vw, tyR)] true (.int .i64)
theorem ok_slices_Index_impl_Record_impl_Record : e_slices_Index_impl_Record_impl_Record.Ok Tryz.prog := mkE_ok envC ok_nil Tryz.func152 (by decide +kernel) (by kernel_rfl)
def h_slices_Contains_impl_Record_impl_Record : List (Nat × Hint) := []
noncomputable def e_slices_Contains_impl_Record_impl_Record : Ent := mkE tysC 117 [e_slices_Index_impl_Record_impl_Record] h_slices_Contains_impl_Record_impl_Record Tryz.f117 [(.vw, tyRf), (.vw, tyR)] true .bool
theorem ok_slices_Contains_impl_Record_impl_Record : e_slices_Contains_impl_Record_impl_Record.Ok Tryz.prog := mkE_ok envC (ok_cons ok_slices_Index_impl_Record_impl_Record ok_nil) Tryz.func117 (by decide +kernel) (by kernel_rfl)
def h_impl_GoodDiff_1 : List (Nat × Hint) := []
noncomputable def e_impl_GoodDiff_1 : Ent := mkE tysC 116 [e_slices_Contains_impl_Record_impl_Record] h_impl_GoodDiff_1 Tryz.f116 [(.vw, tyR), (.vw, (.ptr (.pair (.int .i64) (.pair (.int .i64) (.pair tyRf (.pair tyRf .unit))))))] true .bool
theorem ok_impl_GoodDiff_1 : e_impl_GoodDiff_1.Ok Tryz.prog := mkE_ok envC (ok_cons ok_slices_Contains_impl_Record_impl_Record ok_nil) Tryz.func116 (by decide +kernel) (by kernel_rfl)
def h_slices_IndexFunc_impl_Record_impl_Record__impl_GoodDiff_1 : List (Nat × Hint) := [(26, .loop ⟨[0, 1, 7], [(8, 0, (.int .i64))]⟩ [(1, ⟨[], [(4, 0, (.int .i64))]⟩), (2, ⟨[], []⟩)])]
noncomputable def e_slices_IndexFunc_impl_Record_impl_Record__impl_GoodDiff_1 : Ent := mkE tysC 151 [e_impl_GoodDiff_1] h_slices_IndexFunc_impl_Record_impl_Record__impl_GoodDiff_1 Tryz.f151 [(.vw, tyRf), (.vw, (.fn 116 (.pair (.ptr (.pair (.int .i64) (.pair (.int .i64) (.pair tyRf (.pair tyRf .unit))))) .unit)))] true (.int .i64)
theorem ok_slices_IndexFunc_impl_Record_impl_Record__impl_GoodDiff_1 : e_slices_IndexFunc_impl_Record_impl_Record__impl_GoodDiff_1.Ok Tryz.prog := mkE_ok envC (ok_cons ok_impl_GoodDiff_1 ok_nil) Tryz.func151 (by decide +kernel) (by kernel_rfl)
def h_slices_ContainsFunc_impl_Record_impl_Record__impl_GoodDiff_1 : List (Nat × Hint) := []
noncomputable def e_slices_ContainsFunc_impl_Record_impl_Record__impl_GoodDiff_1 : Ent := mkE tysC 115 [e_slices_IndexFunc_impl_Record_impl_Record__impl_GoodDiff_1] h_slices_ContainsFunc_impl_Record_impl_Record__impl_GoodDiff_1 Tryz.f115 [(.vw, tyRf), (.vw, (.fn 116 (.pair (.ptr (.pair (.int .i64) (.pair (.int .i64) (.pair tyRf (.pair tyRf .unit))))) .unit)))] true .bool
theorem ok_slices_ContainsFunc_impl_Record_impl_Record__impl_GoodDiff_1 : e_slices_ContainsFunc_impl_Record_impl_Record__impl_GoodDiff_1.Ok Tryz.prog := mkE_ok envC (ok_cons ok_slices_IndexFunc_impl_Record_impl_Record__impl_GoodDiff_1 ok_nil) Tryz.func115 (by decide +kernel) (by kernel_rfl)
def h_impl_GoodDiff : List (Nat × Hint) := [(3, .join [(0, ⟨[], [(2, 0, .bool)]⟩)])]
noncomputable def e_impl_GoodDiff : Ent := mkE tysC 80 [e_impl_isDiff, e_slices_ContainsFunc_impl_Record_impl_Record__impl_GoodDiff_1] h_impl_GoodDiff Tryz.f80 [(.vw, (.pair (.int .i64) (.pair (.int .i64) (.pair tyRf (.pair tyRf .unit)))))] true .bool
theorem ok_impl_GoodDiff : e_impl_GoodDiff.Ok Tryz.prog := mkE_ok envC (ok_cons ok_impl_isDiff (ok_cons ok_slices_ContainsFunc_impl_Record_impl_Record__impl_GoodDiff_1 ok_nil)) Tryz.func80 (by decide +kernel) (by kernel_rfl)
def h_impl_GoodJournal : List (Nat × Hint) := [(122, .loop ⟨[25, 26], [(3, 0, (.int .i64)), (27, 0, (.int .i64))]⟩ [(1, ⟨[], [(2, 0, .bool)]⟩), (2, ⟨[], []⟩)]), (15666, .join [(0, ⟨[5, 25, 26, 27], [(45, 0, .bool)]⟩)]), (6, .join [(0, ⟨[1], [(21, 0, .bool)]⟩)])]
noncomputable def e_impl_GoodJournal : Ent := mkE tysC 36 [e_impl_GoodName, e_impl_isCounter, e_impl_GoodDiff] h_impl_GoodJournal Tryz.f36 [(.vw, (.pair .str (.pair (.int .i64) (.pair (.lst false (.pair (.int .i64) (.pair (.int .i64) (.pair tyRf (.pair tyRf .unit))))) .unit))))] true .bool
theorem ok_impl_GoodJournal : e_impl_GoodJournal.Ok Tryz.prog := mkE_ok envC (ok_cons ok_impl_GoodName (ok_cons ok_impl_isCounter (ok_cons ok_impl_GoodDiff ok_nil))) Tryz.func36 (by decide +kernel) (by kernel_rfl)
def h_impl_Journal_last : List (Nat × Hint) := []
noncomputable def e_impl_Journal_last : Ent := mkE tysC 37 [] h_impl_Journal_last Tryz.f37 [(.vw, (.pair .str (.pair (.int .i64) (.pair (.lst false (.pair (.int .i64) (.pair (.int .i64) (.pair tyRf (.pair tyRf .unit))))) .unit))))] true (.int .i64)
theorem ok_impl_Journal_last : e_impl_Journal_last.Ok Tryz.prog := mkE_ok envC ok_nil Tryz.func37 (by decide +kernel) (by kernel_rfl)
def h_impl_isVersion : List (Nat × Hint) := [(3, .join [(0, ⟨[], [(4, 0, .bool)]⟩)])]
noncomputable def e_impl_isVersion : Ent := mkE tysC 41 [e_impl_GoodZone] h_impl_isVersion Tryz.f41 [(.vw, (.pair (.pair tyZf (.pair (.lst false tyD) (.pair (.int .i64) .unit))) (.pair (.pair .str (.pair (.int .i64) (.pair (.lst false (.pair (.int .i64) (.pair (.int .i64) (.pair tyRf (.pair tyRf .unit))))) .unit))) (.pair (.lst false (.pair tyZf (.pair tyZf .unit))) (.pair (.lst false (.pair (.int .i64) (.pair .bool (.pair tyZf (.pair (.pair (.int .i64) (.pair (.int .i64) (.pair tyRf (.pair tyRf .unit)))) .unit))))) .unit))))), (.vw, tyZf)] true .bool
theorem ok_impl_isVersion : e_impl_isVersion.Ok Tryz.prog := mkE_ok envC (ok_cons ok_impl_GoodZone ok_nil) Tryz.func41 (by decide +kernel) (by kernel_rfl)
def h_impl_GoodFleet_1 : List (Nat × Hint) := [(3, .join [(0, ⟨[], [(3, 0, .bool)]⟩)])]
noncomputable def e_impl_GoodFleet_1 : Ent := mkE tysC 40 [e_impl_isVersion] h_impl_GoodFleet_1 Tryz.f40 [(.vw, (.pair tyZf (.pair tyZf .unit))), (.vw, (.ptr (.pair (.pair tyZf (.pair (.lst false tyD) (.pair (.int .i64) .unit))) (.pair (.pair .str (.pair (.int .i64) (.pair (.lst false (.pair (.int .i64) (.pair (.int .i64) (.pair tyRf (.pair tyRf .unit))))) .unit))) (.pair (.lst false (.pair tyZf (.pair tyZf .unit))) (.pair (.lst false (.pair (.int .i64) (.pair .bool (.pair tyZf (.pair (.pair (.int .i64) (.pair (.int .i64) (.pair tyRf (.pair tyRf .unit)))) .unit))))) .unit))))))] true .bool
theorem ok_impl_GoodFleet_1 : e_impl_GoodFleet_1.Ok Tryz.prog := mkE_ok envC (ok_cons ok_impl_isVersion ok_nil) Tryz.func40 (by decide +kernel) (by kernel_rfl)
def h_slices_IndexFunc_impl_Edge_impl_Edge__impl_GoodFleet_1 : List (Nat × Hint) := [(26, .loop ⟨[0, 1, 7], [(8, 0, (.int .i64))]⟩ [(1, ⟨[], [(4, 0, (.int .i64))]⟩), (2, ⟨[], []⟩)])]
noncomputable def e_slices_IndexFunc_impl_Edge_impl_Edge__impl_GoodFleet_1 : Ent := mkE tysC 81 [e_impl_GoodFleet_1] h_slices_IndexFunc_impl_Edge_impl_Edge__impl_GoodFleet_1 Tryz.f81 [(.vw, (.lst false (.pair tyZf (.pair tyZf .unit)))), (.vw, (.fn 40 (.pair (.ptr (.pair (.pair tyZf (.pair (.lst false tyD) (.pair (.int .i64) .unit))) (.pair (.pair .str (.pair (.int .i64) (.pair (.lst false (.pair (.int .i64) (.pair (.int .i64) (.pair tyRf (.pair tyRf .unit))))) .unit))) (.pair (.lst false (.pair tyZf (.pair tyZf .unit))) (.pair (.lst false (.pair (.int .i64) (.pair .bool (.pair tyZf (.pair (.pair (.int .i64) (.pair (.int .i64) (.pair tyRf (.pair tyRf .unit)))) .unit))))) .unit))))) .unit)))] true (.int .i64)
theorem ok_slices_IndexFunc_impl_Edge_impl_Edge__impl_GoodFleet_1 : e_slices_IndexFunc_impl_Edge_impl_Edge__impl_GoodFleet_1.Ok Tryz.prog := mkE_ok envC (ok_cons ok_impl_GoodFleet_1 ok_nil) Tryz.func81 (by decide +kernel) (by kernel_rfl)
def h_slices_ContainsFunc_impl_Edge_impl_Edge__impl_GoodFleet_1 : List (Nat × Hint) := []
noncomputable def e_slices_ContainsFunc_impl_Edge_impl_Edge__impl_GoodFleet_1 : Ent := mkE tysC 39 [e_slices_IndexFunc_impl_Edge_impl_Edge__impl_GoodFleet_1] h_slices_ContainsFunc_impl_Edge_impl_Edge__impl_GoodFleet_1 Tryz.f39 [(.vw, (.lst false (.pair tyZf (.pair tyZf .unit)))), (.vw, (.fn 40 (.pair (.ptr (.pair (.pair tyZf (.pair (.lst false tyD) (.pair (.int .i64) .unit))) (.pair (.pair .str (.pair (.int .i64) (.pair (.lst false (.pair (.int .i64) (.pair (.int .i64) (.pair tyRf (.pair tyRf .unit))))) .unit))) (.pair (.lst false (.pair tyZf (.pair tyZf .unit))) (.pair (.lst false (.pair (.int .i64) (.pair .bool (.pair tyZf (.pair (.pair (.int .i64) (.pair (.int .i64) (.pair tyRf (.pair tyRf .unit)))) .unit))))) .unit))))) .unit)))] true .bool
theorem ok_slices_ContainsFunc_impl_Edge_impl_Edge__impl_GoodFleet_1 : e_slices_ContainsFunc_impl_Edge_impl_Edge__impl_GoodFleet_1.Ok Tryz.prog := mkE_ok envC (ok_cons ok_slices_IndexFunc_impl_Edge_impl_Edge__impl_GoodFleet_1 ok_nil) Tryz.func39 (by decide +kernel) (by kernel_rfl)
def h_impl_isParcel : List (Nat × Hint) := [(31, .join [(0, ⟨[], [(4, 0, .bool)]⟩)]), (122, .join [(0, ⟨[], [(4, 0, .bool)]⟩)])]
noncomputable def e_impl_isParcel : Ent := mkE tysC 44 [e_impl_within, e_impl_isVersion, e_impl_GoodDiff] h_impl_isParcel Tryz.f44 [(.vw, (.pair (.pair tyZf (.pair (.lst false tyD) (.pair (.int .i64) .unit))) (.pair (.pair .str (.pair (.int .i64) (.pair (.lst false (.pair (.int .i64) (.pair (.int .i64) (.pair tyRf (.pair tyRf .unit))))) .unit))) (.pair (.lst false (.pair tyZf (.pair tyZf .unit))) (.pair (.lst false (.pair (.int .i64) (.pair .bool (.pair tyZf (.pair (.pair (.int .i64) (.pair (.int .i64) (.pair tyRf (.pair tyRf .unit)))) .unit))))) .unit))))), (.vw, (.pair (.int .i64) (.pair .bool (.pair tyZf (.pair (.pair (.int .i64) (.pair (.int .i64) (.pair tyRf (.pair tyRf .unit)))) .unit)))))] true .bool
theorem ok_impl_isParcel : e_impl_isParcel.Ok Tryz.prog := mkE_ok envC (ok_cons ok_impl_within (ok_cons ok_impl_isVersion (ok_cons ok_impl_GoodDiff ok_nil))) Tryz.func44 (by decide +kernel) (by kernel_rfl)
def h_impl_GoodFleet_2 : List (Nat × Hint) := []
noncomputable def e_impl_GoodFleet_2 : Ent := mkE tysC 43 [e_impl_isParcel] h_impl_GoodFleet_2 Tryz.f43 [(.vw, (.pair (.int .i64) (.pair .bool (.pair tyZf (.pair (.pair (.int .i64) (.pair (.int .i64) (.pair tyRf (.pair tyRf .unit)))) .unit))))), (.vw, (.ptr (.pair (.pair tyZf (.pair (.lst false tyD) (.pair (.int .i64) .unit))) (.pair (.pair .str (.pair (.int .i64) (.pair (.lst false (.pair (.int .i64) (.pair (.int .i64) (.pair tyRf (.pair tyRf .unit))))) .unit))) (.pair (.lst false (.pair tyZf (.pair tyZf .unit))) (.pair (.lst false (.pair (.int .i64) (.pair .bool (.pair tyZf (.pair (.pair (.int .i64) (.pair (.int .i64) (.pair tyRf (.pair tyRf .unit)))) .unit))))) .unit))))))] true .bool
theorem ok_impl_GoodFleet_2 : e_impl_GoodFleet_2.Ok Tryz.prog := mkE_ok envC (ok_cons ok_impl_isParcel ok_nil) Tryz.func43 (by decide +kernel) (by kernel_rfl)
def h_slices_IndexFunc_impl_Parcel_impl_Parcel__impl_GoodFleet_2 : List (Nat × Hint) := [(26, .loop ⟨[0, 1, 7], [(8, 0, (.int .i64))]⟩ [(1, ⟨[], [(4, 0, (.int .i64))]⟩), (2, ⟨[], []⟩)])]
noncomputable def e_slices_IndexFunc_impl_Parcel_impl_Parcel__impl_GoodFleet_2 : Ent := mkE tysC 82 [e_impl_GoodFleet_2] h_slices_IndexFunc_impl_Parcel_impl_Parcel__impl_GoodFleet_2 Tryz.f82 [(.vw, (.lst false (.pair (.int .i64) (.pair .bool (.pair tyZf (.pair (.pair (.int .i64) (.pair (.int .i64) (.pair tyRf (.pair tyRf .unit)))) .unit)))))), (.vw, (.fn 43 (.pair (.ptr (.pair (.pair tyZf (.pair (.lst false tyD) (.pair (.int .i64) .unit))) (.pair (.pair .str (.pair (.int .i64) (.pair (.lst false (.pair (.int .i64) (.pair (.int .i64) (.pair tyRf (.pair tyRf .unit))))) .unit))) (.pair (.lst false (.pair tyZf (.pair tyZf .unit))) (.pair (.lst false (.pair (.int .i64) (.pair .bool (.pair tyZf (.pair (.pair (.int .i64) (.pair (.int .i64) (.pair tyRf (.pair tyRf .unit)))) .unit))))) .unit))))) .unit)))] true (.int .i64)
theorem ok_slices_IndexFunc_impl_Parcel_impl_Parcel__impl_GoodFleet_2 : e_slices_IndexFunc_impl_Parcel_impl_Parcel__impl_GoodFleet_2.Ok Tryz.prog := mkE_ok envC (ok_cons ok_impl_GoodFleet_2 ok_nil) Tryz.func82 (by decide +kernel) (by kernel_rfl)
def h_slices_ContainsFunc_impl_Parcel_impl_Parcel__impl_GoodFleet_2 : List (Nat × Hint) := []
noncomputable def e_slices_ContainsFunc_impl_Parcel_impl_Parcel__impl_GoodFleet_2 : Ent := mkE tysC 42 [e_slices_IndexFunc_impl_Parcel_impl_Parcel__impl_GoodFleet_2] h_slices_ContainsFunc_impl_Parcel_impl_Parcel__impl_GoodFleet_2 Tryz.f42 [(.vw, (.lst false (.pair (.int .i64) (.pair .bool (.pair tyZf (.pair (.pair (.int .i64) (.pair (.int .i64) (.pair tyRf (.pair tyRf .unit)))) .unit)))))), (.vw, (.fn 43 (.pair (.ptr (.pair (.pair tyZf (.pair (.lst false tyD) (.pair (.int .i64) .unit))) (.pair (.pair .str (.pair (.int .i64) (.pair (.lst false (.pair (.int .i64) (.pair (.int .i64) (.pair tyRf (.pair tyRf .unit))))) .unit))) (.pair (.lst false (.pair tyZf (.pair tyZf .unit))) (.pair (.lst false (.pair (.int .i64) (.pair .bool (.pair tyZf (.pair (.pair (.int .i64) (.pair (.int .i64) (.pair tyRf (.pair tyRf .unit)))) .unit))))) .unit))))) .unit)))] true .bool
theorem ok_slices_ContainsFunc_impl_Parcel_impl_Parcel__impl_GoodFleet_2 : e_slices_ContainsFunc_impl_Parcel_impl_Parcel__impl_GoodFleet_2.Ok Tryz.prog := mkE_ok envC (ok_cons ok_slices_IndexFunc_impl_Parcel_impl_Parcel__impl_GoodFleet_2 ok_nil) Tryz.func42 (by decide +kernel) (by kernel_rfl)
def h_impl_GoodFleet : List (Nat × Hint) := [(15, .join [(0, ⟨[], [(2, 0, .bool)]⟩)]), (14, .join [(0, ⟨[1], [(46, 0, .bool)]⟩)]), (6, .join [(0, ⟨[1], [(35, 0, .bool)]⟩)])]
noncomputable def e_impl_GoodFleet : Ent := mkE tysC 9 [e_impl_GoodControl, e_impl_GoodJournal, e_impl_Journal_last, e_impl_within, e_slices_ContainsFunc_impl_Edge_impl_Edge__impl_GoodFleet_1, e_slices_ContainsFunc_impl_Parcel_impl_Parcel__impl_GoodFleet_2] h_impl_GoodFleet Tryz.f9 [(.vw, (.pair (.pair tyZf (.pair (.lst false tyD) (.pair (.int .i64) .unit))) (.pair (.pair .str (.pair (.int .i64) (.pair (.lst false (.pair (.int .i64) (.pair (.int .i64) (.pair tyRf (.pair tyRf .unit))))) .unit))) (.pair (.lst false (.pair tyZf (.pair tyZf .unit))) (.pair (.lst false (.pair (.int .i64) (.pair .bool (.pair tyZf (.pair (.pair (.int .i64) (.pair (.int .i64) (.pair tyRf (.pair tyRf .unit)))) .unit))))) .unit)))))] true .bool
theorem ok_impl_GoodFleet : e_impl_GoodFleet.Ok Tryz.prog := mkE_ok envC (ok_cons ok_impl_GoodControl (ok_cons ok_impl_GoodJournal (ok_cons ok_impl_Journal_last (ok_cons ok_impl_within (ok_cons ok_slices_ContainsFunc_impl_Edge_impl_Edge__impl_GoodFleet_1 (ok_cons ok_slices_ContainsFunc_impl_Parcel_impl_Parcel__impl_GoodFleet_2 ok_nil)))))) Tryz.func9 (by decide +kernel) (by kernel_rfl)
def h_slices_Index_int_int : List (Nat × Hint) := [(26, .loop ⟨[0, 1, 7], [(8, 0, (.int .i64))]⟩ [(1, ⟨[], [(4, 0, (.int .i64))]⟩), (2, ⟨[], []⟩)])]
noncomputable def e_slices_Index_int_int : Ent := mkE tysC 178 [] h_slices_Index_int_int Tryz.f178 [(.vw, (.lst false (.int .i64))), (.vw, (.int .i64))] true (.int .i64)
theorem ok_slices_Index_int_int : e_slices_Index_int_int.Ok Tryz.prog := mkE_ok envC ok_nil Tryz.func178 (by decide +kernel) (by kernel_rfl)
def h_slices_Contains_int_int : List (Nat × Hint) := []
noncomputable def e_slices_Contains_int_int : Ent := mkE tysC 156 [e_slices_Index_int_int] h_slices_Contains_int_int Tryz.f156 [(.vw, (.lst false (.int .i64))), (.vw, (.int .i64))] true .bool
theorem ok_slices_Contains_int_int : e_slices_Contains_int_int.Ok Tryz.prog := mkE_ok envC (ok_cons ok_slices_Index_int_int ok_nil) Tryz.func156 (by decide +kernel) (by kernel_rfl)
def h_impl_isType : List (Nat × Hint) := []
noncomputable def e_impl_isType : Ent := mkE tysC 128 [e_slices_Contains_int_int] h_impl_isType Tryz.f128 [(.vw, (.int .i64))] true .bool
theorem ok_impl_isType : e_impl_isType.Ok Tryz.prog := mkE_ok envC (ok_cons ok_slices_Contains_int_int ok_nil) Tryz.func128 (by decide +kernel) (by kernel_rfl)
def h_impl_isAsked : List (Nat × Hint) := [(3, .join [(0, ⟨[], [(6, 0, .bool)]⟩)])]
noncomputable def e_impl_isAsked : Ent := mkE tysC 90 [e_impl_GoodZone, e_impl_GoodName, e_impl_isType] h_impl_isAsked Tryz.f90 [(.vw, tyZf), (.vw, .str), (.vw, (.int .i64))] true .bool
theorem ok_impl_isAsked : e_impl_isAsked.Ok Tryz.prog := mkE_ok envC (ok_cons ok_impl_GoodZone (ok_cons ok_impl_GoodName (ok_cons ok_impl_isType ok_nil))) Tryz.func90 (by decide +kernel) (by kernel_rfl)
def h_impl_parentOf : List (Nat × Hint) := []
noncomputable def e_impl_parentOf : Ent := mkE tysC 158 [e_strings_Cut] h_impl_parentOf Tryz.f158 [(.vw, .str)] true .str
theorem ok_impl_parentOf : e_impl_parentOf.Ok Tryz.prog := mkE_ok envC (ok_cons ok_strings_Cut ok_nil) Tryz.func158 (by decide +kernel) (by kernel_rfl)
def h_impl_cutAbove : List (Nat × Hint) := [(28, .loop ⟨[2], [(1, 0, .str), (6, 0, .str), (7, 0, .bool)]⟩ [(2, ⟨[], [(6, 0, .str), (7, 0, .bool)]⟩)]), (113, .join [(0, ⟨[1, 2], [(6, 0, .str), (7, 0, .bool)]⟩)])]
noncomputable def e_impl_cutAbove : Ent := mkE tysC 130 [e_impl_at, e_impl_parentOf] h_impl_cutAbove Tryz.f130 [(.vw, tyZf), (.vw, .str)] false (.pair .str (.pair .bool .unit))
theorem ok_impl_cutAbove : e_impl_cutAbove.Ok Tryz.prog := mkE_ok envC (ok_cons ok_impl_at (ok_cons ok_impl_parentOf ok_nil)) Tryz.func130 (by decide +kernel) (by kernel_rfl)
def h_impl_isThere_1 : List (Nat × Hint) := []
noncomputable def e_impl_isThere_1 : Ent := mkE tysC 159 [e_impl_isBelow] h_impl_isThere_1 Tryz.f159 [(.vw, tyR), (.vw, (.ptr .str))] true .bool
theorem ok_impl_isThere_1 : e_impl_isThere_1.Ok Tryz.prog := mkE_ok envC (ok_cons ok_impl_isBelow ok_nil) Tryz.func159 (by decide +kernel) (by kernel_rfl)
def h_slices_IndexFunc_impl_Record_impl_Record__impl_isThere_1 : List (Nat × Hint) := [(26, .loop ⟨[0, 1, 7], [(8, 0, (.int .i64))]⟩ [(1, ⟨[], [(4, 0, (.int .i64))]⟩), (2, ⟨[], []⟩)])]
noncomputable def e_slices_IndexFunc_impl_Record_impl_Record__impl_isThere_1 : Ent := mkE tysC 151 [e_impl_isThere_1] h_slices_IndexFunc_impl_Record_impl_Record__impl_isThere_1 Tryz.f151 [(.vw, tyRf), (.vw, (.fn 159 (.pair (.ptr .str) .unit)))] true (.int .i64)
theorem ok_slices_IndexFunc_impl_Record_impl_Record__impl_isThere_1 : e_slices_IndexFunc_impl_Record_impl_Record__impl_isThere_1.Ok Tryz.prog := mkE_ok envC (ok_cons ok_impl_isThere_1 ok_nil) Tryz.func151 (by decide +kernel) (by kernel_rfl)
def h_slices_ContainsFunc_impl_Record_impl_Record__impl_isThere_1 : List (Nat × Hint) := []
noncomputable def e_slices_ContainsFunc_impl_Record_impl_Record__impl_isThere_1 : Ent := mkE tysC 115 [e_slices_IndexFunc_impl_Record_impl_Record__impl_isThere_1] h_slices_ContainsFunc_impl_Record_impl_Record__impl_isThere_1 Tryz.f115 [(.vw, tyRf), (.vw, (.fn 159 (.pair (.ptr .str) .unit)))] true .bool
theorem ok_slices_ContainsFunc_impl_Record_impl_Record__impl_isThere_1 : e_slices_ContainsFunc_impl_Record_impl_Record__impl_isThere_1.Ok Tryz.prog := mkE_ok envC (ok_cons ok_slices_IndexFunc_impl_Record_impl_Record__impl_isThere_1 ok_nil) Tryz.func115 (by decide +kernel) (by kernel_rfl)
def h_impl_isThere : List (Nat × Hint) := [(3, .join [(0, ⟨[], [(4, 0, .bool)]⟩)])]
noncomputable def e_impl_isThere : Ent := mkE tysC 131 [e_impl_isBelow, e_slices_ContainsFunc_impl_Record_impl_Record__impl_isThere_1] h_impl_isThere Tryz.f131 [(.vw, tyZf), (.vw, .str)] true .bool
theorem ok_impl_isThere : e_impl_isThere.Ok Tryz.prog := mkE_ok envC (ok_cons ok_impl_isBelow (ok_cons ok_slices_ContainsFunc_impl_Record_impl_Record__impl_isThere_1 ok_nil)) Tryz.func131 (by decide +kernel) (by kernel_rfl)
def h_impl_encloserOf : List (Nat × Hint) := [(12, .loop ⟨[2], [(1, 0, .str)]⟩ [(2, ⟨[], [(1, 0, .str)]⟩)])]
noncomputable def e_impl_encloserOf : Ent := mkE tysC 132 [e_impl_isThere, e_impl_parentOf] h_impl_encloserOf Tryz.f132 [(.vw, tyZf), (.vw, .str)] true .str
theorem ok_impl_encloserOf : e_impl_encloserOf.Ok Tryz.prog := mkE_ok envC (ok_cons ok_impl_isThere (ok_cons ok_impl_parentOf ok_nil)) Tryz.func132 (by decide +kernel) (by kernel_rfl)
def h_impl_starOf : List (Nat × Hint) := []
noncomputable def e_impl_starOf : Ent := mkE tysC 133 [] h_impl_starOf Tryz.f133 [(.vw, .str)] true .str
theorem ok_impl_starOf : e_impl_starOf.Ok Tryz.prog := mkE_ok envC ok_nil Tryz.func133 (by decide +kernel) (by kernel_rfl)
def h_impl_lookUp : List (Nat × Hint) := [(4090, .loop ⟨[1, 6, 73], [(11, 2, (.pair (.int .i64) (.pair .str (.pair tyRt (.pair tyRt .unit))))), (74, 0, (.int .i64))]⟩ [(2, ⟨[6], [(11, 2, (.pair (.int .i64) (.pair .str (.pair tyRt (.pair tyRt .unit)))))]⟩)]), (127, .join [(0, ⟨[1, 6, 9], [(11, 2, (.pair (.int .i64) (.pair .str (.pair tyRt (.pair tyRt .unit)))))]⟩)]), (31, .join [(0, ⟨[1, 2, 3, 6], [(9, 0, .str)]⟩), (1, ⟨[], [(6, 2, (.pair (.int .i64) (.pair .str (.pair tyRt (.pair tyRt .unit)))))]⟩)])]
noncomputable def e_impl_lookUp : Ent := mkE tysC 91 [e_impl_isBelow, e_impl_cutAbove, e_impl_at, e_impl_isThere, e_impl_encloserOf, e_impl_starOf] h_impl_lookUp Tryz.f91 [(.vw, tyZf), (.vw, .str), (.vw, (.int .i64))] true (.pair (.int .i64) (.pair .str (.pair tyRt (.pair tyRt .unit))))
theorem ok_impl_lookUp : e_impl_lookUp.Ok Tryz.prog := mkE_ok envC (ok_cons ok_impl_isBelow (ok_cons ok_impl_cutAbove (ok_cons ok_impl_at (ok_cons ok_impl_isThere (ok_cons ok_impl_encloserOf (ok_cons ok_impl_starOf ok_nil)))))) Tryz.func91 (by decide +kernel) (by kernel_rfl)
def h_impl_LookUp : List (Nat × Hint) := []
noncomputable def e_impl_LookUp : Ent := mkE tysC 50 [e_impl_isAsked, e_impl_lookUp] h_impl_LookUp Tryz.f50 [(.vw, tyZf), (.vw, .str), (.vw, (.int .i64))] false (.pair (.pair (.int .i64) (.pair .str (.pair tyRt (.pair tyRt .unit)))) (.pair .bool .unit))
theorem ok_impl_LookUp : e_impl_LookUp.Ok Tryz.prog := mkE_ok envC (ok_cons ok_impl_isAsked (ok_cons ok_impl_lookUp ok_nil)) Tryz.func50 (by decide +kernel) (by kernel_rfl)
def h_impl_AnswerAt : List (Nat × Hint) := [(6, .join [(0, ⟨[1, 2, 3, 4, 5, 10], [(27, 0, .bool)]⟩)])]
noncomputable def e_impl_AnswerAt : Ent := mkE tysC 14 [e_impl_GoodFleet, e_impl_within, e_impl_LookUp] h_impl_AnswerAt Tryz.f14 [(.vw, (.pair (.pair tyZf (.pair (.lst false tyD) (.pair (.int .i64) .unit))) (.pair (.pair .str (.pair (.int .i64) (.pair (.lst false (.pair (.int .i64) (.pair (.int .i64) (.pair tyRf (.pair tyRf .unit))))) .unit))) (.pair (.lst false (.pair tyZf (.pair tyZf .unit))) (.pair (.lst false (.pair (.int .i64) (.pair .bool (.pair tyZf (.pair (.pair (.int .i64) (.pair (.int .i64) (.pair tyRf (.pair tyRf .unit)))) .unit))))) .unit))))), (.vw, (.int .i64)), (.vw, .str), (.vw, (.int .i64)), (.vw, (.int .i64))] false (.pair (.pair (.int .i64) (.pair .str (.pair tyRt (.pair tyRt .unit)))) (.pair .bool (.pair .bool .unit)))
theorem ok_impl_AnswerAt : e_impl_AnswerAt.Ok Tryz.prog := mkE_ok envC (ok_cons ok_impl_GoodFleet (ok_cons ok_impl_within (ok_cons ok_impl_LookUp ok_nil))) Tryz.func14 (by decide +kernel) (by kernel_rfl)
def h_laws_eqRecord : List (Nat × Hint) := []
noncomputable def e_laws_eqRecord : Ent := mkE tysC 92 [] h_laws_eqRecord Tryz.f92 [(.vw, tyR), (.vw, tyR)] true .bool
theorem ok_laws_eqRecord : e_laws_eqRecord.Ok Tryz.prog := mkE_ok envC ok_nil Tryz.func92 (by decide +kernel) (by kernel_rfl)
def h_laws_eqRecordS : List (Nat × Hint) := [(58, .loop ⟨[0, 1], [(5, 0, (.int .i64))]⟩ [(1, ⟨[4], []⟩), (2, ⟨[], []⟩)])]
noncomputable def e_laws_eqRecordS : Ent := mkE tysC 51 [e_laws_eqRecord] h_laws_eqRecordS Tryz.f51 [(.vw, tyRf), (.vw, tyRf)] true .bool
theorem ok_laws_eqRecordS : e_laws_eqRecordS.Ok Tryz.prog := mkE_ok envC (ok_cons ok_laws_eqRecord ok_nil) Tryz.func51 (by decide +kernel) (by kernel_rfl)
def h_laws_eqFound : List (Nat × Hint) := []
noncomputable def e_laws_eqFound : Ent := mkE tysC 15 [e_laws_eqRecordS] h_laws_eqFound Tryz.f15 [(.vw, (.pair (.int .i64) (.pair .str (.pair tyRf (.pair tyRf .unit))))), (.vw, (.pair (.int .i64) (.pair .str (.pair tyRf (.pair tyRf .unit)))))] true .bool
theorem ok_laws_eqFound : e_laws_eqFound.Ok Tryz.prog := mkE_ok envC (ok_cons ok_laws_eqRecordS ok_nil) Tryz.func15 (by decide +kernel) (by kernel_rfl)
def h_laws_eqZone : List (Nat × Hint) := []
noncomputable def e_laws_eqZone : Ent := mkE tysC 83 [e_laws_eqRecordS] h_laws_eqZone Tryz.f83 [(.vw, tyZf), (.vw, tyZf)] true .bool
theorem ok_laws_eqZone : e_laws_eqZone.Ok Tryz.prog := mkE_ok envC (ok_cons ok_laws_eqRecordS ok_nil) Tryz.func83 (by decide +kernel) (by kernel_rfl)
def h_laws_eqDone : List (Nat × Hint) := []
noncomputable def e_laws_eqDone : Ent := mkE tysC 118 [] h_laws_eqDone Tryz.f118 [(.vw, tyD), (.vw, tyD)] true .bool
theorem ok_laws_eqDone : e_laws_eqDone.Ok Tryz.prog := mkE_ok envC ok_nil Tryz.func118 (by decide +kernel) (by kernel_rfl)
def h_laws_eqDoneS : List (Nat × Hint) := [(58, .loop ⟨[0, 1], [(5, 0, (.int .i64))]⟩ [(1, ⟨[4], []⟩), (2, ⟨[], []⟩)])]
noncomputable def e_laws_eqDoneS : Ent := mkE tysC 84 [e_laws_eqDone] h_laws_eqDoneS Tryz.f84 [(.vw, (.lst false tyD)), (.vw, (.lst false tyD))] true .bool
theorem ok_laws_eqDoneS : e_laws_eqDoneS.Ok Tryz.prog := mkE_ok envC (ok_cons ok_laws_eqDone ok_nil) Tryz.func84 (by decide +kernel) (by kernel_rfl)
def h_laws_eqControl : List (Nat × Hint) := []
noncomputable def e_laws_eqControl : Ent := mkE tysC 45 [e_laws_eqZone, e_laws_eqDoneS] h_laws_eqControl Tryz.f45 [(.vw, (.pair tyZf (.pair (.lst false tyD) (.pair (.int .i64) .unit)))), (.vw, (.pair tyZf (.pair (.lst false tyD) (.pair (.int .i64) .unit))))] true .bool
theorem ok_laws_eqControl : e_laws_eqControl.Ok Tryz.prog := mkE_ok envC (ok_cons ok_laws_eqZone (ok_cons ok_laws_eqDoneS ok_nil)) Tryz.func45 (by decide +kernel) (by kernel_rfl)
def h_laws_eqDiff : List (Nat × Hint) := []
noncomputable def e_laws_eqDiff : Ent := mkE tysC 119 [e_laws_eqRecordS] h_laws_eqDiff Tryz.f119 [(.vw, (.pair (.int .i64) (.pair (.int .i64) (.pair tyRf (.pair tyRf .unit))))), (.vw, (.pair (.int .i64) (.pair (.int .i64) (.pair tyRf (.pair tyRf .unit)))))] true .bool
theorem ok_laws_eqDiff : e_laws_eqDiff.Ok Tryz.prog := mkE_ok envC (ok_cons ok_laws_eqRecordS ok_nil) Tryz.func119 (by decide +kernel) (by kernel_rfl)
def h_laws_eqDiffS : List (Nat × Hint) := [(58, .loop ⟨[0, 1], [(5, 0, (.int .i64))]⟩ [(1, ⟨[4], []⟩), (2, ⟨[], []⟩)])]
noncomputable def e_laws_eqDiffS : Ent := mkE tysC 85 [e_laws_eqDiff] h_laws_eqDiffS Tryz.f85 [(.vw, (.lst false (.pair (.int .i64) (.pair (.int .i64) (.pair tyRf (.pair tyRf .unit)))))), (.vw, (.lst false (.pair (.int .i64) (.pair (.int .i64) (.pair tyRf (.pair tyRf .unit))))))] true .bool
theorem ok_laws_eqDiffS : e_laws_eqDiffS.Ok Tryz.prog := mkE_ok envC (ok_cons ok_laws_eqDiff ok_nil) Tryz.func85 (by decide +kernel) (by kernel_rfl)
def h_laws_eqJournal : List (Nat × Hint) := []
noncomputable def e_laws_eqJournal : Ent := mkE tysC 46 [e_laws_eqDiffS] h_laws_eqJournal Tryz.f46 [(.vw, (.pair .str (.pair (.int .i64) (.pair (.lst false (.pair (.int .i64) (.pair (.int .i64) (.pair tyRf (.pair tyRf .unit))))) .unit)))), (.vw, (.pair .str (.pair (.int .i64) (.pair (.lst false (.pair (.int .i64) (.pair (.int .i64) (.pair tyRf (.pair tyRf .unit))))) .unit))))] true .bool
theorem ok_laws_eqJournal : e_laws_eqJournal.Ok Tryz.prog := mkE_ok envC (ok_cons ok_laws_eqDiffS ok_nil) Tryz.func46 (by decide +kernel) (by kernel_rfl)
def h_laws_eqEdge : List (Nat × Hint) := []
noncomputable def e_laws_eqEdge : Ent := mkE tysC 86 [e_laws_eqZone] h_laws_eqEdge Tryz.f86 [(.vw, (.pair tyZf (.pair tyZf .unit))), (.vw, (.pair tyZf (.pair tyZf .unit)))] true .bool
theorem ok_laws_eqEdge : e_laws_eqEdge.Ok Tryz.prog := mkE_ok envC (ok_cons ok_laws_eqZone ok_nil) Tryz.func86 (by decide +kernel) (by kernel_rfl)
def h_laws_eqEdgeS : List (Nat × Hint) := [(58, .loop ⟨[0, 1], [(5, 0, (.int .i64))]⟩ [(1, ⟨[4], []⟩), (2, ⟨[], []⟩)])]
noncomputable def e_laws_eqEdgeS : Ent := mkE tysC 47 [e_laws_eqEdge] h_laws_eqEdgeS Tryz.f47 [(.vw, (.lst false (.pair tyZf (.pair tyZf .unit)))), (.vw, (.lst false (.pair tyZf (.pair tyZf .unit))))] true .bool
theorem ok_laws_eqEdgeS : e_laws_eqEdgeS.Ok Tryz.prog := mkE_ok envC (ok_cons ok_laws_eqEdge ok_nil) Tryz.func47 (by decide +kernel) (by kernel_rfl)
def h_laws_eqParcel : List (Nat × Hint) := []
noncomputable def e_laws_eqParcel : Ent := mkE tysC 87 [e_laws_eqZone, e_laws_eqDiff] h_laws_eqParcel Tryz.f87 [(.vw, (.pair (.int .i64) (.pair .bool (.pair tyZf (.pair (.pair (.int .i64) (.pair (.int .i64) (.pair tyRf (.pair tyRf .unit)))) .unit))))), (.vw, (.pair (.int .i64) (.pair .bool (.pair tyZf (.pair (.pair (.int .i64) (.pair (.int .i64) (.pair tyRf (.pair tyRf .unit)))) .unit)))))] true .bool
theorem ok_laws_eqParcel : e_laws_eqParcel.Ok Tryz.prog := mkE_ok envC (ok_cons ok_laws_eqZone (ok_cons ok_laws_eqDiff ok_nil)) Tryz.func87 (by decide +kernel) (by kernel_rfl)
def h_laws_eqParcelS : List (Nat × Hint) := [(58, .loop ⟨[0, 1], [(5, 0, (.int .i64))]⟩ [(1, ⟨[4], []⟩), (2, ⟨[], []⟩)])]
noncomputable def e_laws_eqParcelS : Ent := mkE tysC 48 [e_laws_eqParcel] h_laws_eqParcelS Tryz.f48 [(.vw, (.lst false (.pair (.int .i64) (.pair .bool (.pair tyZf (.pair (.pair (.int .i64) (.pair (.int .i64) (.pair tyRf (.pair tyRf .unit)))) .unit)))))), (.vw, (.lst false (.pair (.int .i64) (.pair .bool (.pair tyZf (.pair (.pair (.int .i64) (.pair (.int .i64) (.pair tyRf (.pair tyRf .unit)))) .unit))))))] true .bool
theorem ok_laws_eqParcelS : e_laws_eqParcelS.Ok Tryz.prog := mkE_ok envC (ok_cons ok_laws_eqParcel ok_nil) Tryz.func48 (by decide +kernel) (by kernel_rfl)
def h_laws_eqFleet : List (Nat × Hint) := []
noncomputable def e_laws_eqFleet : Ent := mkE tysC 10 [e_laws_eqControl, e_laws_eqJournal, e_laws_eqEdgeS, e_laws_eqParcelS] h_laws_eqFleet Tryz.f10 [(.vw, (.pair (.pair tyZf (.pair (.lst false tyD) (.pair (.int .i64) .unit))) (.pair (.pair .str (.pair (.int .i64) (.pair (.lst false (.pair (.int .i64) (.pair (.int .i64) (.pair tyRf (.pair tyRf .unit))))) .unit))) (.pair (.lst false (.pair tyZf (.pair tyZf .unit))) (.pair (.lst false (.pair (.int .i64) (.pair .bool (.pair tyZf (.pair (.pair (.int .i64) (.pair (.int .i64) (.pair tyRf (.pair tyRf .unit)))) .unit))))) .unit))))), (.vw, (.pair (.pair tyZf (.pair (.lst false tyD) (.pair (.int .i64) .unit))) (.pair (.pair .str (.pair (.int .i64) (.pair (.lst false (.pair (.int .i64) (.pair (.int .i64) (.pair tyRf (.pair tyRf .unit))))) .unit))) (.pair (.lst false (.pair tyZf (.pair tyZf .unit))) (.pair (.lst false (.pair (.int .i64) (.pair .bool (.pair tyZf (.pair (.pair (.int .i64) (.pair (.int .i64) (.pair tyRf (.pair tyRf .unit)))) .unit))))) .unit)))))] true .bool
theorem ok_laws_eqFleet : e_laws_eqFleet.Ok Tryz.prog := mkE_ok envC (ok_cons ok_laws_eqControl (ok_cons ok_laws_eqJournal (ok_cons ok_laws_eqEdgeS (ok_cons ok_laws_eqParcelS ok_nil)))) Tryz.func10 (by decide +kernel) (by kernel_rfl)
def h_laws_markText : List (Nat × Hint) := [(60, .loop ⟨[], [(0, 0, (.int .i64)), (3, 0, .str)]⟩ [(2, ⟨[], [(3, 0, .str)]⟩)])]
noncomputable def e_laws_markText : Ent := mkE tysC 96 [] h_laws_markText Tryz.f96 [(.vw, (.int .i64))] true .str
theorem ok_laws_markText : e_laws_markText.Ok Tryz.prog := mkE_ok envC ok_nil Tryz.func96 (by decide +kernel) (by kernel_rfl)
def h_laws_markRecordS : List (Nat × Hint) := [(26, .loop ⟨[], [(0, 0, tyRt), (1, 0, (.int .i64)), (5, 0, (.int .i64))]⟩ [(2, ⟨[], [(0, 0, tyRt), (1, 0, (.int .i64))]⟩)])]
noncomputable def e_laws_markRecordS : Ent := mkE tysC 56 [e_laws_markText] h_laws_markRecordS Tryz.f56 [(.io, tyRt), (.vw, (.int .i64))] true (.int .i64)
theorem ok_laws_markRecordS : e_laws_markRecordS.Ok Tryz.prog := mkE_ok envC (ok_cons ok_laws_markText ok_nil) Tryz.func56 (by decide +kernel) (by kernel_rfl)
def h_laws_markZone : List (Nat × Hint) := []
noncomputable def e_laws_markZone : Ent := mkE tysC 93 [e_laws_markRecordS] h_laws_markZone Tryz.f93 [(.io, tyZt), (.vw, (.int .i64))] true (.int .i64)
theorem ok_laws_markZone : e_laws_markZone.Ok Tryz.prog := mkE_ok envC (ok_cons ok_laws_markRecordS ok_nil) Tryz.func93 (by decide +kernel) (by kernel_rfl)
def h_laws_markDoneS : List (Nat × Hint) := [(26, .loop ⟨[], [(0, 0, (.lst true tyD)), (1, 0, (.int .i64)), (5, 0, (.int .i64))]⟩ [(2, ⟨[], [(0, 0, (.lst true tyD)), (1, 0, (.int .i64))]⟩)])]
noncomputable def e_laws_markDoneS : Ent := mkE tysC 94 [] h_laws_markDoneS Tryz.f94 [(.io, (.lst true tyD)), (.vw, (.int .i64))] true (.int .i64)
theorem ok_laws_markDoneS : e_laws_markDoneS.Ok Tryz.prog := mkE_ok envC ok_nil Tryz.func94 (by decide +kernel) (by kernel_rfl)
def h_laws_markControl : List (Nat × Hint) := []
noncomputable def e_laws_markControl : Ent := mkE tysC 52 [e_laws_markZone, e_laws_markDoneS] h_laws_markControl Tryz.f52 [(.io, (.pair tyZt (.pair (.lst true tyD) (.pair (.int .i64) .unit)))), (.vw, (.int .i64))] true (.int .i64)
theorem ok_laws_markControl : e_laws_markControl.Ok Tryz.prog := mkE_ok envC (ok_cons ok_laws_markZone (ok_cons ok_laws_markDoneS ok_nil)) Tryz.func52 (by decide +kernel) (by kernel_rfl)
def h_laws_markDiffS : List (Nat × Hint) := [(26, .loop ⟨[], [(0, 0, (.lst true (.pair (.int .i64) (.pair (.int .i64) (.pair tyRt (.pair tyRt .unit)))))), (1, 0, (.int .i64)), (5, 0, (.int .i64))]⟩ [(2, ⟨[], [(0, 0, (.lst true (.pair (.int .i64) (.pair (.int .i64) (.pair tyRt (.pair tyRt .unit)))))), (1, 0, (.int .i64))]⟩)])]
noncomputable def e_laws_markDiffS : Ent := mkE tysC 95 [e_laws_markRecordS] h_laws_markDiffS Tryz.f95 [(.io, (.lst true (.pair (.int .i64) (.pair (.int .i64) (.pair tyRt (.pair tyRt .unit)))))), (.vw, (.int .i64))] true (.int .i64)
theorem ok_laws_markDiffS : e_laws_markDiffS.Ok Tryz.prog := mkE_ok envC (ok_cons ok_laws_markRecordS ok_nil) Tryz.func95 (by decide +kernel) (by kernel_rfl)
def h_laws_markJournal : List (Nat × Hint) := []
noncomputable def e_laws_markJournal : Ent := mkE tysC 53 [e_laws_markDiffS] h_laws_markJournal Tryz.f53 [(.io, (.pair .str (.pair (.int .i64) (.pair (.lst true (.pair (.int .i64) (.pair (.int .i64) (.pair tyRt (.pair tyRt .unit))))) .unit)))), (.vw, (.int .i64))] true (.int .i64)
theorem ok_laws_markJournal : e_laws_markJournal.Ok Tryz.prog := mkE_ok envC (ok_cons ok_laws_markDiffS ok_nil) Tryz.func53 (by decide +kernel) (by kernel_rfl)
def h_laws_markEdgeS : List (Nat × Hint) := [(26, .loop ⟨[], [(0, 0, (.lst true (.pair tyZt (.pair tyZt .unit)))), (1, 0, (.int .i64)), (5, 0, (.int .i64))]⟩ [(2, ⟨[], [(0, 0, (.lst true (.pair tyZt (.pair tyZt .unit)))), (1, 0, (.int .i64))]⟩)])]
noncomputable def e_laws_markEdgeS : Ent := mkE tysC 54 [e_laws_markText, e_laws_markRecordS] h_laws_markEdgeS Tryz.f54 [(.io, (.lst true (.pair tyZt (.pair tyZt .unit)))), (.vw, (.int .i64))] true (.int .i64)
theorem ok_laws_markEdgeS : e_laws_markEdgeS.Ok Tryz.prog := mkE_ok envC (ok_cons ok_laws_markText (ok_cons ok_laws_markRecordS ok_nil)) Tryz.func54 (by decide +kernel) (by kernel_rfl)
def h_laws_markParcelS : List (Nat × Hint) := [(26, .loop ⟨[], [(0, 0, (.lst true (.pair (.int .i64) (.pair .bool (.pair tyZt (.pair (.pair (.int .i64) (.pair (.int .i64) (.pair tyRt (.pair tyRt .unit)))) .unit)))))), (1, 0, (.int .i64)), (5, 0, (.int .i64))]⟩ [(2, ⟨[], [(0, 0, (.lst true (.pair (.int .i64) (.pair .bool (.pair tyZt (.pair (.pair (.int .i64) (.pair (.int .i64) (.pair tyRt (.pair tyRt .unit)))) .unit)))))), (1, 0, (.int .i64))]⟩)])]
noncomputable def e_laws_markParcelS : Ent := mkE tysC 55 [e_laws_markText, e_laws_markRecordS] h_laws_markParcelS Tryz.f55 [(.io, (.lst true (.pair (.int .i64) (.pair .bool (.pair tyZt (.pair (.pair (.int .i64) (.pair (.int .i64) (.pair tyRt (.pair tyRt .unit)))) .unit)))))), (.vw, (.int .i64))] true (.int .i64)
theorem ok_laws_markParcelS : e_laws_markParcelS.Ok Tryz.prog := mkE_ok envC (ok_cons ok_laws_markText (ok_cons ok_laws_markRecordS ok_nil)) Tryz.func55 (by decide +kernel) (by kernel_rfl)
def h_laws_markFleet : List (Nat × Hint) := []
noncomputable def e_laws_markFleet : Ent := mkE tysC 16 [e_laws_markControl, e_laws_markJournal, e_laws_markEdgeS, e_laws_markParcelS] h_laws_markFleet Tryz.f16 [(.io, (.pair (.pair tyZt (.pair (.lst true tyD) (.pair (.int .i64) .unit))) (.pair (.pair .str (.pair (.int .i64) (.pair (.lst true (.pair (.int .i64) (.pair (.int .i64) (.pair tyRt (.pair tyRt .unit))))) .unit))) (.pair (.lst true (.pair tyZt (.pair tyZt .unit))) (.pair (.lst true (.pair (.int .i64) (.pair .bool (.pair tyZt (.pair (.pair (.int .i64) (.pair (.int .i64) (.pair tyRt (.pair tyRt .unit)))) .unit))))) .unit))))), (.vw, (.int .i64))] true (.int .i64)
theorem ok_laws_markFleet : e_laws_markFleet.Ok Tryz.prog := mkE_ok envC (ok_cons ok_laws_markControl (ok_cons ok_laws_markJournal (ok_cons ok_laws_markEdgeS (ok_cons ok_laws_markParcelS ok_nil)))) Tryz.func16 (by decide +kernel) (by kernel_rfl)
def h_laws_markFound : List (Nat × Hint) := []
noncomputable def e_laws_markFound : Ent := mkE tysC 17 [e_laws_markRecordS] h_laws_markFound Tryz.f17 [(.io, (.pair (.int .i64) (.pair .str (.pair tyRt (.pair tyRt .unit))))), (.vw, (.int .i64))] true (.int .i64)
theorem ok_laws_markFound : e_laws_markFound.Ok Tryz.prog := mkE_ok envC (ok_cons ok_laws_markRecordS ok_nil) Tryz.func17 (by decide +kernel) (by kernel_rfl)
def h_laws_heldRecordS : List (Nat × Hint) := [(26, .loop ⟨[0], [(1, 0, (.int .i64)), (5, 0, (.int .i64))]⟩ [(1, ⟨[], [(4, 0, (.int .i64))]⟩), (2, ⟨[], [(1, 0, (.int .i64))]⟩)])]
noncomputable def e_laws_heldRecordS : Ent := mkE tysC 57 [e_laws_markText] h_laws_heldRecordS Tryz.f57 [(.vw, tyRf), (.vw, (.int .i64))] true (.int .i64)
theorem ok_laws_heldRecordS : e_laws_heldRecordS.Ok Tryz.prog := mkE_ok envC (ok_cons ok_laws_markText ok_nil) Tryz.func57 (by decide +kernel) (by kernel_rfl)
def h_laws_heldFound : List (Nat × Hint) := []
noncomputable def e_laws_heldFound : Ent := mkE tysC 18 [e_laws_heldRecordS] h_laws_heldFound Tryz.f18 [(.vw, (.pair (.int .i64) (.pair .str (.pair tyRf (.pair tyRf .unit))))), (.vw, (.int .i64))] true (.int .i64)
theorem ok_laws_heldFound : e_laws_heldFound.Ok Tryz.prog := mkE_ok envC (ok_cons ok_laws_heldRecordS ok_nil) Tryz.func18 (by decide +kernel) (by kernel_rfl)
def h_laws_FnExactAnswerAt : List (Nat × Hint) := [(4194302, .join [(0, ⟨[16, 20], [(131, 0, .bool)]⟩)]), (16382, .join [(0, ⟨[1, 2, 3, 4, 5, 12, 13, 14, 16], [(95, 0, .bool)]⟩)]), (1022, .join [(0, ⟨[1, 2, 3, 4, 5, 12, 13, 14, 15, 16, 17, 18], [(69, 0, .bool)]⟩)])]
noncomputable def e_laws_FnExactAnswerAt : Ent := mkE tysC 5 [e_laws_szFleet, e_laws_toFleet, e_spec_AnswerAt, e_impl_AnswerAt, e_laws_eqFound, e_laws_eqFleet, e_laws_markFleet, e_laws_markFound, e_laws_heldFound] h_laws_FnExactAnswerAt Tryz.f5 [(.vw, (.pair (.pair tyZf (.pair (.lst false tyD) (.pair (.int .i64) .unit))) (.pair (.pair .str (.pair (.int .i64) (.pair (.lst false (.pair (.int .i64) (.pair (.int .i64) (.pair tyRf (.pair tyRf .unit))))) .unit))) (.pair (.lst false (.pair tyZf (.pair tyZf .unit))) (.pair (.lst false (.pair (.int .i64) (.pair .bool (.pair tyZf (.pair (.pair (.int .i64) (.pair (.int .i64) (.pair tyRf (.pair tyRf .unit)))) .unit))))) .unit))))), (.vw, (.int .i64)), (.vw, .str), (.vw, (.int .i64)), (.vw, (.int .i64))] true .bool
theorem ok_laws_FnExactAnswerAt : e_laws_FnExactAnswerAt.Ok Tryz.prog := mkE_ok envC (ok_cons ok_laws_szFleet (ok_cons ok_laws_toFleet (ok_cons ok_spec_AnswerAt (ok_cons ok_impl_AnswerAt (ok_cons ok_laws_eqFound (ok_cons ok_laws_eqFleet (ok_cons ok_laws_markFleet (ok_cons ok_laws_markFound (ok_cons ok_laws_heldFound ok_nil))))))))) Tryz.func5 (by decide +kernel) (by kernel_rfl)
end Go.Proofs.YtjanpfgbppcphaaGreatDoor
