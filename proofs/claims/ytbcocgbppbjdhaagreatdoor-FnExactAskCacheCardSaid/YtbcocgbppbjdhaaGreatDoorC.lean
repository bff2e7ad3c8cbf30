/- The functions that the law reaches, each as a program of expressions. -/
import Derived.Test.YtbcocgbppbjdhaaGreatDoorLb1
import Derived.Test.YtbcocgbppbjdhaaGreatDoorProg
import Derived.KernelRfl
import Derived.Test.YtbcocgbppbjdhaaGreatDoorLays
set_option linter.unusedSectionVars false
set_option linter.unusedVariables false
set_option linter.unusedSimpArgs false
namespace Go.Proofs.YtbcocgbppbjdhaaGreatDoor
open Go Go.Own
set_option maxRecDepth 100000
instance glbI : Glb := Glb.at [(0, isInt .i64), (3, isErr), (4, isErr), (5, isArr (Lib.pow10Tab.map fun z => Value.int .u64 z).toArray)]
theorem glbMaxLen : ∀ h V, Glb.ok h V → ∃ m arr ty fz, h[Tryz.l146_ren.g 1]? = some (.cells arr ty fz) ∧ arr[0]? = some (.int .i64 m) :=
  fun _ _ h => isInt_get (h (0, isInt .i64) (by simp)).2
theorem glbSyn : ∀ h V, Glb.ok h V → ∃ ev arr ty fz, h[Tryz.l172_ren.g 15]? = some (.cells arr ty fz) ∧ arr[0]? = some ev ∧ (ev = .nilIface ∨ ∃ te pe, ev = .iface te pe) :=
  fun _ _ h => isErr_get (h (3, isErr) (by simp)).2
theorem glbRng : ∀ h V, Glb.ok h V → ∃ ev arr ty fz, h[Tryz.l172_ren.g 16]? = some (.cells arr ty fz) ∧ arr[0]? = some ev ∧ (ev = .nilIface ∨ ∃ te pe, ev = .iface te pe) :=
  fun _ _ h => isErr_get (h (4, isErr) (by simp)).2
theorem glbPow : ∀ h V, Glb.ok h V → ∃ ty fz, h[5]? = some (.cells (Lib.pow10Tab.map fun z => Value.int .u64 z).toArray ty fz) :=
  fun _ _ h => isArr_get (h (5, isArr (Lib.pow10Tab.map fun z => Value.int .u64 z).toArray) (by simp)).2
abbrev tyR : T := .pair .str (.pair (.int .i64) (.pair (.int .i64) (.pair .str .unit)))
abbrev tyD : T := .pair (.int .i64) (.pair (.int .i64) (.pair (.int .i64) (.pair (.int .i64) .unit)))
abbrev tyRf : T := .lst false tyR
abbrev tyRt : T := .lst true tyR
abbrev tyZf : T := .pair .str (.pair (.int .i64) (.pair tyRf .unit))
abbrev tyZt : T := .pair .str (.pair (.int .i64) (.pair tyRt .unit))
def tysC : List (TypeId × T × Nat) := [(3, (.int .i64), 0), (4, .bool, 0), (5, (.int .u8), 0), (9, .str, 0), (22, (.lst true (.pair .str (.pair (.int .i64) (.pair .bool (.pair tyRt (.pair (.int .i64) (.pair (.int .i64) .unit))))))), 72), (24, (.pair (.int .i64) (.pair (.lst true (.pair .str (.pair (.int .i64) (.pair .bool (.pair tyRt (.pair (.int .i64) (.pair (.int .i64) .unit))))))) .unit)), 0), (26, (.lst true (.pair .str (.pair (.int .i64) (.pair .bool (.pair tyRt (.pair (.int .i64) (.pair (.int .i64) .unit))))))), 72), (28, (.pair (.int .i64) (.pair (.lst true (.pair .str (.pair (.int .i64) (.pair .bool (.pair tyRt (.pair (.int .i64) (.pair (.int .i64) .unit))))))) .unit)), 0), (29, tyRt, 48), (31, (.pair .str (.pair (.int .i64) (.pair .bool (.pair tyRt (.pair (.int .i64) (.pair (.int .i64) .unit)))))), 0), (47, tyR, 0), (56, tyRt, 48), (58, (.pair .str (.pair (.int .i64) (.pair .bool (.pair tyRt (.pair (.int .i64) (.pair (.int .i64) .unit)))))), 0), (61, (.lst true .str), 16), (65, (.lst true (.int .i64)), 8), (88, (.int .u64), 0), (89, (.lst true (.int .u8)), 1), (91, tyR, 0), (129, .err, 0)]
theorem envC : ∀ sig n fx fr, EnvOk Tryz.prog ⟨tyOf tysC, ebOf tysC, sig, n, fx, fr⟩ := by
  refine EnvOk.ofL (fun sig n fx fr t ht => ?_) (by kernel_rfl)
  simp only [tysC, List.map_cons, List.map_nil, List.mem_cons] at ht
  rcases ht with rfl | ht
  · exact ⟨Tryz.underlying3, rfl, by kernel_rfl, by kernel_rfl⟩
  rcases ht with rfl | ht
  · exact ⟨Tryz.underlying4, rfl, by kernel_rfl, by kernel_rfl⟩
  rcases ht with rfl | ht
  · exact ⟨Tryz.underlying5, rfl, by kernel_rfl, by kernel_rfl⟩
  rcases ht with rfl | ht
  · exact ⟨Tryz.underlying9, rfl, by kernel_rfl, by kernel_rfl⟩
  rcases ht with rfl | ht
  · exact ⟨⟨rfl, _, Tryz.underlying22, rfl, rfl, by kernel_rfl⟩, rfl, by kernel_rfl, by kernel_rfl⟩
  rcases ht with rfl | ht
  · exact ⟨⟨_, Tryz.underlying24, rfl, rfl, rfl, rfl, rfl, rfl, trivial⟩, rfl, by kernel_rfl, by kernel_rfl⟩
  rcases ht with rfl | ht
  · exact ⟨⟨rfl, _, Tryz.underlying26, rfl, rfl, by kernel_rfl⟩, rfl, by kernel_rfl, by kernel_rfl⟩
  rcases ht with rfl | ht
  · exact ⟨⟨_, Tryz.underlying28, rfl, rfl, rfl, rfl, rfl, rfl, trivial⟩, rfl, by kernel_rfl, by kernel_rfl⟩
  rcases ht with rfl | ht
  · exact ⟨⟨rfl, _, Tryz.underlying29, rfl, rfl, by kernel_rfl⟩, rfl, by kernel_rfl, by kernel_rfl⟩
  rcases ht with rfl | ht
  · exact ⟨⟨_, Tryz.underlying31, rfl, rfl, rfl, rfl, rfl, rfl, rfl, rfl, rfl, rfl, rfl, rfl, rfl, rfl, rfl, rfl, rfl, rfl, trivial⟩, rfl, by kernel_rfl, by kernel_rfl⟩
  rcases ht with rfl | ht
  · exact ⟨⟨_, Tryz.underlying47, rfl, rfl, rfl, rfl, rfl, rfl, rfl, rfl, rfl, rfl, rfl, rfl, trivial⟩, rfl, by kernel_rfl, by kernel_rfl⟩
  rcases ht with rfl | ht
  · exact ⟨⟨rfl, _, Tryz.underlying56, rfl, rfl, by kernel_rfl⟩, rfl, by kernel_rfl, by kernel_rfl⟩
  rcases ht with rfl | ht
  · exact ⟨⟨_, Tryz.underlying58, rfl, rfl, rfl, rfl, rfl, rfl, rfl, rfl, rfl, rfl, rfl, rfl, rfl, rfl, rfl, rfl, rfl, rfl, trivial⟩, rfl, by kernel_rfl, by kernel_rfl⟩
  rcases ht with rfl | ht
  · exact ⟨⟨rfl, _, Tryz.underlying61, rfl, rfl, by kernel_rfl⟩, rfl, by kernel_rfl, by kernel_rfl⟩
  rcases ht with rfl | ht
  · exact ⟨⟨rfl, _, Tryz.underlying65, rfl, rfl, by kernel_rfl⟩, rfl, by kernel_rfl, by kernel_rfl⟩
  rcases ht with rfl | ht
  · exact ⟨Tryz.underlying88, rfl, by kernel_rfl, by kernel_rfl⟩
  rcases ht with rfl | ht
  · exact ⟨⟨rfl, _, Tryz.underlying89, rfl, rfl, by kernel_rfl⟩, rfl, by kernel_rfl, by kernel_rfl⟩
  rcases ht with rfl | ht
  · exact ⟨⟨_, Tryz.underlying91, rfl, rfl, rfl, rfl, rfl, rfl, rfl, rfl, rfl, rfl, rfl, rfl, trivial⟩, rfl, by kernel_rfl, by kernel_rfl⟩
  rcases ht with rfl | ht
  · exact ⟨⟨_, Tryz.underlying129⟩, rfl, by kernel_rfl, by kernel_rfl⟩
  cases ht
def h_laws_szRecord : List (Nat × Hint) := []
noncomputable def e_laws_szRecord : Ent := mkE tysC 68 [] h_laws_szRecord Tryz.f68 [(.vw, tyR), (.vw, (.int .i64))] true (.int .i64)
theorem ok_laws_szRecord : e_laws_szRecord.Ok Tryz.prog := mkE_ok envC ok_nil Tryz.func68 (by decide +kernel) (by kernel_rfl)
def h_laws_szRecordS : List (Nat × Hint) := [(122, .loop ⟨[0], [(1, 0, (.int .i64)), (5, 0, (.int .i64))]⟩ [(1, ⟨[], [(4, 0, (.int .i64))]⟩), (2, ⟨[], [(1, 0, (.int .i64))]⟩)])]
noncomputable def e_laws_szRecordS : Ent := mkE tysC 53 [e_laws_szRecord] h_laws_szRecordS Tryz.f53 [(.vw, tyRf), (.vw, (.int .i64))] true (.int .i64)
theorem ok_laws_szRecordS : e_laws_szRecordS.Ok Tryz.prog := mkE_ok envC (ok_cons ok_laws_szRecord ok_nil) Tryz.func53 (by decide +kernel) (by kernel_rfl)
def h_laws_szEntry : List (Nat × Hint) := []
noncomputable def e_laws_szEntry : Ent := mkE tysC 33 [e_laws_szRecordS] h_laws_szEntry Tryz.f33 [(.vw, (.pair .str (.pair (.int .i64) (.pair .bool (.pair tyRf (.pair (.int .i64) (.pair (.int .i64) .unit))))))), (.vw, (.int .i64))] true (.int .i64)
theorem ok_laws_szEntry : e_laws_szEntry.Ok Tryz.prog := mkE_ok envC (ok_cons ok_laws_szRecordS ok_nil) Tryz.func33 (by decide +kernel) (by kernel_rfl)
def h_laws_szEntryS : List (Nat × Hint) := [(122, .loop ⟨[0], [(1, 0, (.int .i64)), (5, 0, (.int .i64))]⟩ [(1, ⟨[], [(4, 0, (.int .i64))]⟩), (2, ⟨[], [(1, 0, (.int .i64))]⟩)])]
noncomputable def e_laws_szEntryS : Ent := mkE tysC 14 [e_laws_szEntry] h_laws_szEntryS Tryz.f14 [(.vw, (.lst false (.pair .str (.pair (.int .i64) (.pair .bool (.pair tyRf (.pair (.int .i64) (.pair (.int .i64) .unit)))))))), (.vw, (.int .i64))] true (.int .i64)
theorem ok_laws_szEntryS : e_laws_szEntryS.Ok Tryz.prog := mkE_ok envC (ok_cons ok_laws_szEntry ok_nil) Tryz.func14 (by decide +kernel) (by kernel_rfl)
def h_laws_szCache : List (Nat × Hint) := []
noncomputable def e_laws_szCache : Ent := mkE tysC 4 [e_laws_szEntryS] h_laws_szCache Tryz.f4 [(.vw, (.pair (.int .i64) (.pair (.lst false (.pair .str (.pair (.int .i64) (.pair .bool (.pair tyRf (.pair (.int .i64) (.pair (.int .i64) .unit))))))) .unit))), (.vw, (.int .i64))] true (.int .i64)
theorem ok_laws_szCache : e_laws_szCache.Ok Tryz.prog := mkE_ok envC (ok_cons ok_laws_szEntryS ok_nil) Tryz.func4 (by decide +kernel) (by kernel_rfl)
def h_laws_toRecord : List (Nat × Hint) := []
noncomputable def e_laws_toRecord : Ent := mkE tysC 71 [] h_laws_toRecord Tryz.f71 [(.vw, tyR)] true tyR
theorem ok_laws_toRecord : e_laws_toRecord.Ok Tryz.prog := mkE_ok envC ok_nil Tryz.func71 (by decide +kernel) (by kernel_rfl)
def h_laws_toRecordS : List (Nat × Hint) := [(58, .loop ⟨[0], [(3, 0, tyRt), (4, 0, (.int .i64))]⟩ [(2, ⟨[], [(3, 0, tyRt)]⟩)]), (0, .frz [2])]
noncomputable def e_laws_toRecordS : Ent := mkE tysC 59 [e_laws_toRecord] h_laws_toRecordS Tryz.f59 [(.vw, tyRf)] true tyRt
theorem ok_laws_toRecordS : e_laws_toRecordS.Ok Tryz.prog := mkE_ok envC (ok_cons ok_laws_toRecord ok_nil) Tryz.func59 (by decide +kernel) (by kernel_rfl)
def h_laws_toEntry : List (Nat × Hint) := []
noncomputable def e_laws_toEntry : Ent := mkE tysC 39 [e_laws_toRecordS] h_laws_toEntry Tryz.f39 [(.vw, (.pair .str (.pair (.int .i64) (.pair .bool (.pair tyRf (.pair (.int .i64) (.pair (.int .i64) .unit)))))))] true (.pair .str (.pair (.int .i64) (.pair .bool (.pair tyRt (.pair (.int .i64) (.pair (.int .i64) .unit))))))
theorem ok_laws_toEntry : e_laws_toEntry.Ok Tryz.prog := mkE_ok envC (ok_cons ok_laws_toRecordS ok_nil) Tryz.func39 (by decide +kernel) (by kernel_rfl)
def h_laws_toEntryS : List (Nat × Hint) := [(58, .loop ⟨[0], [(3, 0, (.lst true (.pair .str (.pair (.int .i64) (.pair .bool (.pair tyRt (.pair (.int .i64) (.pair (.int .i64) .unit)))))))), (4, 0, (.int .i64))]⟩ [(2, ⟨[], [(3, 0, (.lst true (.pair .str (.pair (.int .i64) (.pair .bool (.pair tyRt (.pair (.int .i64) (.pair (.int .i64) .unit))))))))]⟩)]), (0, .frz [2])]
noncomputable def e_laws_toEntryS : Ent := mkE tysC 20 [e_laws_toEntry] h_laws_toEntryS Tryz.f20 [(.vw, (.lst false (.pair .str (.pair (.int .i64) (.pair .bool (.pair tyRf (.pair (.int .i64) (.pair (.int .i64) .unit))))))))] true (.lst true (.pair .str (.pair (.int .i64) (.pair .bool (.pair tyRt (.pair (.int .i64) (.pair (.int .i64) .unit)))))))
theorem ok_laws_toEntryS : e_laws_toEntryS.Ok Tryz.prog := mkE_ok envC (ok_cons ok_laws_toEntry ok_nil) Tryz.func20 (by decide +kernel) (by kernel_rfl)
def h_laws_toCache : List (Nat × Hint) := []
noncomputable def e_laws_toCache : Ent := mkE tysC 6 [e_laws_toEntryS] h_laws_toCache Tryz.f6 [(.vw, (.pair (.int .i64) (.pair (.lst false (.pair .str (.pair (.int .i64) (.pair .bool (.pair tyRf (.pair (.int .i64) (.pair (.int .i64) .unit))))))) .unit)))] true (.pair (.int .i64) (.pair (.lst true (.pair .str (.pair (.int .i64) (.pair .bool (.pair tyRt (.pair (.int .i64) (.pair (.int .i64) .unit))))))) .unit))
theorem ok_laws_toCache : e_laws_toCache.Ok Tryz.prog := mkE_ok envC (ok_cons ok_laws_toEntryS ok_nil) Tryz.func6 (by decide +kernel) (by kernel_rfl)
def h_spec_l1In : List (Nat × Hint) := [(3, .join [(0, ⟨[], [(6, 0, .bool)]⟩)])]
noncomputable def e_spec_l1In : Ent := mkE tysC 34 [] h_spec_l1In Tryz.f34 [(.vw, (.int .i64)), (.vw, (.int .i64)), (.vw, (.int .i64))] true .bool
theorem ok_spec_l1In : e_spec_l1In.Ok Tryz.prog := mkE_ok envC ok_nil Tryz.func34 (by decide +kernel) (by kernel_rfl)
def h_spec_l1Split : List (Nat × Hint) := [(122, .loop ⟨[0, 1], [(5, 0, (.lst true .str)), (6, 0, (.int .i64)), (7, 0, (.int .i64))]⟩ [(2, ⟨[0], [(5, 0, (.lst true .str)), (6, 0, (.int .i64))]⟩)]), (489, .join [(0, ⟨[0, 1, 7], [(5, 0, (.lst true .str)), (6, 0, (.int .i64))]⟩)])]
noncomputable def e_spec_l1Split : Ent := mkE tysC 57 [] h_spec_l1Split Tryz.f57 [(.vw, .str), (.vw, (.int .u8))] true (.lst true .str)
theorem ok_spec_l1Split : e_spec_l1Split.Ok Tryz.prog := mkE_ok envC ok_nil Tryz.func57 (by decide +kernel) (by kernel_rfl)
def h_spec_l1Label : List (Nat × Hint) := [(58, .loop ⟨[0], [(3, 0, (.int .i64))]⟩ [(1, ⟨[2], []⟩), (2, ⟨[0], []⟩)]), (1865, .join [(0, ⟨[0, 3], [(38, 0, .bool)]⟩)])]
noncomputable def e_spec_l1Label : Ent := mkE tysC 58 [e_spec_l1In] h_spec_l1Label Tryz.f58 [(.vw, .str)] true .bool
theorem ok_spec_l1Label : e_spec_l1Label.Ok Tryz.prog := mkE_ok envC (ok_cons ok_spec_l1In ok_nil) Tryz.func58 (by decide +kernel) (by kernel_rfl)
def h_spec_l1Labels : List (Nat × Hint) := [(31, .join [(0, ⟨[], [(2, 0, (.lst true .str)), (3, 0, .bool)]⟩)]), (122, .loop ⟨[0, 4, 11, 12], [(13, 0, (.int .i64))]⟩ [(1, ⟨[2, 3], []⟩), (2, ⟨[0, 4], []⟩)])]
noncomputable def e_spec_l1Labels : Ent := mkE tysC 37 [e_spec_l1Split, e_spec_l1Label] h_spec_l1Labels Tryz.f37 [(.vw, .str)] false (.pair (.lst true .str) (.pair .bool .unit))
theorem ok_spec_l1Labels : e_spec_l1Labels.Ok Tryz.prog := mkE_ok envC (ok_cons ok_spec_l1Split (ok_cons ok_spec_l1Label ok_nil)) Tryz.func37 (by decide +kernel) (by kernel_rfl)
def h_spec_GoodName : List (Nat × Hint) := []
noncomputable def e_spec_GoodName : Ent := mkE tysC 16 [e_spec_l1Labels] h_spec_GoodName Tryz.f16 [(.vw, .str)] true .bool
theorem ok_spec_GoodName : e_spec_GoodName.Ok Tryz.prog := mkE_ok envC (ok_cons ok_spec_l1Labels ok_nil) Tryz.func16 (by decide +kernel) (by kernel_rfl)
def h_spec_l1Has : List (Nat × Hint) := [(26, .loop ⟨[1, 7, 8], [(9, 0, (.int .i64))]⟩ [(1, ⟨[], [(4, 0, .bool)]⟩), (2, ⟨[], []⟩)])]
noncomputable def e_spec_l1Has : Ent := mkE tysC 38 [] h_spec_l1Has Tryz.f38 [(.vw, (.lst false (.int .i64))), (.vw, (.int .i64))] true .bool
theorem ok_spec_l1Has : e_spec_l1Has.Ok Tryz.prog := mkE_ok envC ok_nil Tryz.func38 (by decide +kernel) (by kernel_rfl)
def h_spec_l3Type : List (Nat × Hint) := []
noncomputable def e_spec_l3Type : Ent := mkE tysC 17 [e_spec_l1Has] h_spec_l3Type Tryz.f17 [(.vw, (.int .i64))] true .bool
theorem ok_spec_l3Type : e_spec_l3Type.Ok Tryz.prog := mkE_ok envC (ok_cons ok_spec_l1Has ok_nil) Tryz.func17 (by decide +kernel) (by kernel_rfl)
def h_spec_l1Compare : List (Nat × Hint) := [(122, .loop ⟨[5, 7], [(9, 0, (.int .i64))]⟩ [(1, ⟨[], [(4, 0, (.int .i64))]⟩), (2, ⟨[5, 7], []⟩)]), (488, .join [(0, ⟨[5, 7, 9], [(31, 0, .bool)]⟩)])]
noncomputable def e_spec_l1Compare : Ent := mkE tysC 54 [e_spec_l1Labels] h_spec_l1Compare Tryz.f54 [(.vw, .str), (.vw, .str)] true (.int .i64)
theorem ok_spec_l1Compare : e_spec_l1Compare.Ok Tryz.prog := mkE_ok envC (ok_cons ok_spec_l1Labels ok_nil) Tryz.func54 (by decide +kernel) (by kernel_rfl)
def h_spec_l10Less : List (Nat × Hint) := [(7, .join [(0, ⟨[], [(4, 0, .bool)]⟩)])]
noncomputable def e_spec_l10Less : Ent := mkE tysC 35 [e_spec_l1Compare] h_spec_l10Less Tryz.f35 [(.vw, (.pair .str (.pair (.int .i64) (.pair .bool (.pair tyRf (.pair (.int .i64) (.pair (.int .i64) .unit))))))), (.vw, (.pair .str (.pair (.int .i64) (.pair .bool (.pair tyRf (.pair (.int .i64) (.pair (.int .i64) .unit)))))))] true .bool
theorem ok_spec_l10Less : e_spec_l10Less.Ok Tryz.prog := mkE_ok envC (ok_cons ok_spec_l1Compare ok_nil) Tryz.func35 (by decide +kernel) (by kernel_rfl)
def h_spec_l1Int : List (Nat × Hint) := [(122, .loop ⟨[0], [(3, 0, (.int .i64)), (4, 0, (.int .i64))]⟩ [(1, ⟨[], [(2, 0, (.int .i64))]⟩), (2, ⟨[], [(3, 0, (.int .i64))]⟩)]), (3912, .join [(0, ⟨[0, 3, 4], [(34, 0, .bool)]⟩)]), (6, .join [(0, ⟨[0], [(18, 0, .bool)]⟩)])]
noncomputable def e_spec_l1Int : Ent := mkE tysC 86 [e_spec_l1In] h_spec_l1Int Tryz.f86 [(.vw, .str)] true (.int .i64)
theorem ok_spec_l1Int : e_spec_l1Int.Ok Tryz.prog := mkE_ok envC (ok_cons ok_spec_l1In ok_nil) Tryz.func86 (by decide +kernel) (by kernel_rfl)
def h_spec_l3Number : List (Nat × Hint) := [(58, .loop ⟨[], [(0, 0, (.int .i64)), (5, 0, (.lst true (.int .u8))), (6, 0, (.int .i64))]⟩ [(2, ⟨[], [(5, 0, (.lst true (.int .u8)))]⟩)])]
noncomputable def e_spec_l3Number : Ent := mkE tysC 87 [] h_spec_l3Number Tryz.f87 [(.vw, (.int .i64)), (.vw, (.int .i64))] true .str
theorem ok_spec_l3Number : e_spec_l3Number.Ok Tryz.prog := mkE_ok envC ok_nil Tryz.func87 (by decide +kernel) (by kernel_rfl)
def h_spec_l3Target : List (Nat × Hint) := [(15, .join [(0, ⟨[], [(2, 0, .bool)]⟩)]), (58, .loop ⟨[0, 3, 12, 13], [(4, 0, .bool), (14, 0, (.int .i64))]⟩ [(2, ⟨[0], [(4, 0, .bool)]⟩)]), (467, .join [(0, ⟨[0, 3, 12, 13, 14], [(4, 0, .bool)]⟩)])]
noncomputable def e_spec_l3Target : Ent := mkE tysC 88 [e_spec_l1Labels] h_spec_l3Target Tryz.f88 [(.vw, .str)] true .bool
theorem ok_spec_l3Target : e_spec_l3Target.Ok Tryz.prog := mkE_ok envC (ok_cons ok_spec_l1Labels ok_nil) Tryz.func88 (by decide +kernel) (by kernel_rfl)
def h_spec_l2Bytes : List (Nat × Hint) := [(122, .loop ⟨[3, 13, 14], [(5, 0, .str), (15, 0, (.int .i64))]⟩ [(2, ⟨[], [(5, 0, .str)]⟩)])]
noncomputable def e_spec_l2Bytes : Ent := mkE tysC 89 [e_spec_l1Labels] h_spec_l2Bytes Tryz.f89 [(.vw, .str)] true .str
theorem ok_spec_l2Bytes : e_spec_l2Bytes.Ok Tryz.prog := mkE_ok envC (ok_cons ok_spec_l1Labels ok_nil) Tryz.func89 (by decide +kernel) (by kernel_rfl)
def h_spec_l3Bytes : List (Nat × Hint) := [(221170, .loop ⟨[1], [(13, 0, (.int .i64))]⟩ [(1, ⟨[], [(4, 0, .str), (5, 0, .bool)]⟩), (5, ⟨[1], []⟩)]), (3538724, .join [(0, ⟨[1, 13], [(104, 0, .bool)]⟩)]), (27642, .join [(0, ⟨[12], [(76, 0, .bool)]⟩)]), (107, .join [(0, ⟨[1, 14], [(39, 0, .bool)]⟩)]), (3418, .loop ⟨[7, 19, 20], [(6, 0, .str), (21, 0, (.int .i64))]⟩ [(1, ⟨[4, 5], []⟩), (3, ⟨[7], [(6, 0, .str)]⟩)])]
noncomputable def e_spec_l3Bytes : Ent := mkE tysC 69 [e_spec_l1Split, e_spec_l1Int, e_spec_l1In, e_spec_l3Number, e_spec_l3Target, e_spec_l2Bytes] h_spec_l3Bytes Tryz.f69 [(.vw, (.int .i64)), (.vw, .str)] false (.pair .str (.pair .bool .unit))
theorem ok_spec_l3Bytes : e_spec_l3Bytes.Ok Tryz.prog := mkE_ok envC (ok_cons ok_spec_l1Split (ok_cons ok_spec_l1Int (ok_cons ok_spec_l1In (ok_cons ok_spec_l3Number (ok_cons ok_spec_l3Target (ok_cons ok_spec_l2Bytes ok_nil)))))) Tryz.func69 (by decide +kernel) (by kernel_rfl)
def h_spec_GoodRecord : List (Nat × Hint) := [(7, .join [(0, ⟨[], [(2, 0, .bool)]⟩)])]
noncomputable def e_spec_GoodRecord : Ent := mkE tysC 55 [e_spec_l3Bytes, e_spec_GoodName, e_spec_l1In] h_spec_GoodRecord Tryz.f55 [(.vw, tyR)] true .bool
theorem ok_spec_GoodRecord : e_spec_GoodRecord.Ok Tryz.prog := mkE_ok envC (ok_cons ok_spec_l3Bytes (ok_cons ok_spec_GoodName (ok_cons ok_spec_l1In ok_nil))) Tryz.func55 (by decide +kernel) (by kernel_rfl)
def h_spec_l3Less : List (Nat × Hint) := []
noncomputable def e_spec_l3Less : Ent := mkE tysC 70 [] h_spec_l3Less Tryz.f70 [(.vw, .bool)] true (.int .i64)
theorem ok_spec_l3Less : e_spec_l3Less.Ok Tryz.prog := mkE_ok envC ok_nil Tryz.func70 (by decide +kernel) (by kernel_rfl)
def h_spec_l3Compare : List (Nat × Hint) := []
noncomputable def e_spec_l3Compare : Ent := mkE tysC 56 [e_spec_l1Compare, e_spec_l3Bytes, e_spec_l3Less] h_spec_l3Compare Tryz.f56 [(.vw, tyR), (.vw, tyR)] true (.int .i64)
theorem ok_spec_l3Compare : e_spec_l3Compare.Ok Tryz.prog := mkE_ok envC (ok_cons ok_spec_l1Compare (ok_cons ok_spec_l3Bytes (ok_cons ok_spec_l3Less ok_nil))) Tryz.func56 (by decide +kernel) (by kernel_rfl)
def h_spec_l10Same : List (Nat × Hint) := [(26, .loop ⟨[0, 5, 6], [(7, 0, (.int .i64))]⟩ [(1, ⟨[2], []⟩), (2, ⟨[0], []⟩)]), (1689, .join [(0, ⟨[0, 5, 6, 7], [(55, 0, .bool)]⟩)])]
noncomputable def e_spec_l10Same : Ent := mkE tysC 36 [e_spec_GoodRecord, e_spec_l3Compare, e_spec_l1In] h_spec_l10Same Tryz.f36 [(.vw, tyRf)] true .bool
theorem ok_spec_l10Same : e_spec_l10Same.Ok Tryz.prog := mkE_ok envC (ok_cons ok_spec_GoodRecord (ok_cons ok_spec_l3Compare (ok_cons ok_spec_l1In ok_nil))) Tryz.func36 (by decide +kernel) (by kernel_rfl)
def h_spec_GoodCache : List (Nat × Hint) := [(58, .loop ⟨[1, 16, 17], [(18, 0, (.int .i64))]⟩ [(1, ⟨[], [(2, 0, .bool)]⟩), (2, ⟨[], []⟩)]), (467, .join [(0, ⟨[1, 16, 17, 18], []⟩), (1, ⟨[], [(2, 0, .bool)]⟩)]), (14951, .join [(0, ⟨[1, 16, 17, 18], [(97, 0, .bool)]⟩)]), (7474, .join [(0, ⟨[1, 4, 16, 17, 18], [(67, 0, .bool)]⟩)]), (6, .join [(0, ⟨[1], [(14, 0, .bool)]⟩)])]
noncomputable def e_spec_GoodCache : Ent := mkE tysC 15 [e_spec_l1In, e_spec_GoodName, e_spec_l3Type, e_spec_l10Less, e_spec_l10Same] h_spec_GoodCache Tryz.f15 [(.vw, (.pair (.int .i64) (.pair (.lst false (.pair .str (.pair (.int .i64) (.pair .bool (.pair tyRf (.pair (.int .i64) (.pair (.int .i64) .unit))))))) .unit)))] true .bool
theorem ok_spec_GoodCache : e_spec_GoodCache.Ok Tryz.prog := mkE_ok envC (ok_cons ok_spec_l1In (ok_cons ok_spec_GoodName (ok_cons ok_spec_l3Type (ok_cons ok_spec_l10Less (ok_cons ok_spec_l10Same ok_nil))))) Tryz.func15 (by decide +kernel) (by kernel_rfl)
def h_spec_l10OwnEntry : List (Nat × Hint) := []
noncomputable def e_spec_l10OwnEntry : Ent := mkE tysC 19 [] h_spec_l10OwnEntry Tryz.f19 [(.vw, (.pair .str (.pair (.int .i64) (.pair .bool (.pair tyRf (.pair (.int .i64) (.pair (.int .i64) .unit)))))))] true (.pair .str (.pair (.int .i64) (.pair .bool (.pair tyRt (.pair (.int .i64) (.pair (.int .i64) .unit))))))
theorem ok_spec_l10OwnEntry : e_spec_l10OwnEntry.Ok Tryz.prog := mkE_ok envC ok_nil Tryz.func19 (by decide +kernel) (by kernel_rfl)
def h_spec_l10Own : List (Nat × Hint) := [(58, .loop ⟨[1, 2, 7, 8], [(3, 0, (.lst true (.pair .str (.pair (.int .i64) (.pair .bool (.pair tyRt (.pair (.int .i64) (.pair (.int .i64) .unit)))))))), (9, 0, (.int .i64))]⟩ [(2, ⟨[1, 2], [(3, 0, (.lst true (.pair .str (.pair (.int .i64) (.pair .bool (.pair tyRt (.pair (.int .i64) (.pair (.int .i64) .unit))))))))]⟩)])]
noncomputable def e_spec_l10Own : Ent := mkE tysC 18 [e_spec_l10OwnEntry] h_spec_l10Own Tryz.f18 [(.vw, (.pair (.int .i64) (.pair (.lst false (.pair .str (.pair (.int .i64) (.pair .bool (.pair tyRf (.pair (.int .i64) (.pair (.int .i64) .unit))))))) .unit)))] true (.pair (.int .i64) (.pair (.lst true (.pair .str (.pair (.int .i64) (.pair .bool (.pair tyRt (.pair (.int .i64) (.pair (.int .i64) .unit))))))) .unit))
theorem ok_spec_l10Own : e_spec_l10Own.Ok Tryz.prog := mkE_ok envC (ok_cons ok_spec_l10OwnEntry ok_nil) Tryz.func18 (by decide +kernel) (by kernel_rfl)
def h_spec_AskCache : List (Nat × Hint) := [(122, .loop ⟨[1, 2, 3, 6, 7, 30, 31], [(32, 0, (.int .i64))]⟩ [(1, ⟨[], [(6, 2, (.pair (.int .i64) (.pair (.lst true (.pair .str (.pair (.int .i64) (.pair .bool (.pair tyRt (.pair (.int .i64) (.pair (.int .i64) .unit))))))) .unit))), (7, 2, (.pair .str (.pair (.int .i64) (.pair .bool (.pair tyRt (.pair (.int .i64) (.pair (.int .i64) .unit))))))), (8, 0, .bool)]⟩), (2, ⟨[6, 7], []⟩)]), (1002746, .loop ⟨[3, 6, 7, 61], [(10, 2, (.pair .str (.pair (.int .i64) (.pair .bool (.pair tyRt (.pair (.int .i64) (.pair (.int .i64) .unit))))))), (62, 0, (.int .i64))]⟩ [(4, ⟨[3, 6, 7], [(10, 2, (.pair .str (.pair (.int .i64) (.pair .bool (.pair tyRt (.pair (.int .i64) (.pair (.int .i64) .unit)))))))]⟩)]), (15666, .join [(0, ⟨[1, 2, 3, 6, 7, 9, 10, 30, 31, 32], [(46, 0, .bool)]⟩)]), (6, .join [(0, ⟨[1, 2, 3, 6, 7], [(24, 0, .bool)]⟩)])]
noncomputable def e_spec_AskCache : Ent := mkE tysC 5 [e_spec_GoodCache, e_spec_GoodName, e_spec_l3Type, e_spec_l10Own, e_spec_l10OwnEntry] h_spec_AskCache Tryz.f5 [(.vw, (.pair (.int .i64) (.pair (.lst false (.pair .str (.pair (.int .i64) (.pair .bool (.pair tyRf (.pair (.int .i64) (.pair (.int .i64) .unit))))))) .unit))), (.vw, .str), (.vw, (.int .i64))] false (.pair (.pair (.int .i64) (.pair (.lst true (.pair .str (.pair (.int .i64) (.pair .bool (.pair tyRt (.pair (.int .i64) (.pair (.int .i64) .unit))))))) .unit)) (.pair (.pair .str (.pair (.int .i64) (.pair .bool (.pair tyRt (.pair (.int .i64) (.pair (.int .i64) .unit)))))) (.pair .bool .unit)))
theorem ok_spec_AskCache : e_spec_AskCache.Ok Tryz.prog := mkE_ok envC (ok_cons ok_spec_GoodCache (ok_cons ok_spec_GoodName (ok_cons ok_spec_l3Type (ok_cons ok_spec_l10Own (ok_cons ok_spec_l10OwnEntry ok_nil))))) Tryz.func5 (by decide +kernel) (by kernel_rfl)
def h_impl_within : List (Nat × Hint) := [(3, .join [(0, ⟨[], [(6, 0, .bool)]⟩)])]
noncomputable def e_impl_within : Ent := mkE tysC 40 [] h_impl_within Tryz.f40 [(.vw, (.int .i64)), (.vw, (.int .i64)), (.vw, (.int .i64))] true .bool
theorem ok_impl_within : e_impl_within.Ok Tryz.prog := mkE_ok envC ok_nil Tryz.func40 (by decide +kernel) (by kernel_rfl)
noncomputable abbrev e_strings_Split : Ent := splitE 64
theorem ok_strings_Split : e_strings_Split.Ok Tryz.prog := splitE_ok Tryz.l146 (by kernel_rfl) Tryz.func64 (by decide +kernel) rfl glbMaxLen
def h_impl_labelsOf : List (Nat × Hint) := []
noncomputable def e_impl_labelsOf : Ent := mkE tysC 43 [e_strings_Split] h_impl_labelsOf Tryz.f43 [(.vw, .str)] true (.lst true .str)
theorem ok_impl_labelsOf : e_impl_labelsOf.Ok Tryz.prog := mkE_ok envC (ok_cons ok_strings_Split ok_nil) Tryz.func43 (by decide +kernel) (by kernel_rfl)
noncomputable abbrev e_strings_Trim : Ent := trimE 66
theorem ok_strings_Trim : e_strings_Trim.Ok Tryz.prog := trimE_ok Tryz.l160 (by kernel_rfl) (by kernel_rfl) Tryz.func66 (by decide +kernel) rfl
def h_impl_isLabel : List (Nat × Hint) := [(7, .join [(0, ⟨[], [(2, 0, .bool)]⟩)])]
noncomputable def e_impl_isLabel : Ent := mkE tysC 46 [e_impl_within, e_strings_Trim] h_impl_isLabel Tryz.f46 [(.vw, .str)] true .bool
theorem ok_impl_isLabel : e_impl_isLabel.Ok Tryz.prog := mkE_ok envC (ok_cons ok_impl_within (ok_cons ok_strings_Trim ok_nil)) Tryz.func46 (by decide +kernel) (by kernel_rfl)
def h_impl_GoodName_1 : List (Nat × Hint) := []
noncomputable def e_impl_GoodName_1 : Ent := mkE tysC 45 [e_impl_isLabel] h_impl_GoodName_1 Tryz.f45 [(.vw, .str)] true .bool
theorem ok_impl_GoodName_1 : e_impl_GoodName_1.Ok Tryz.prog := mkE_ok envC (ok_cons ok_impl_isLabel ok_nil) Tryz.func45 (by decide +kernel) (by kernel_rfl)
def h_slices_IndexFunc_string_string__impl_GoodName_1 : List (Nat × Hint) := [(26, .loop ⟨[0, 1, 7], [(8, 0, (.int .i64))]⟩ [(1, ⟨[], [(4, 0, (.int .i64))]⟩), (2, ⟨[], []⟩)])]
noncomputable def e_slices_IndexFunc_string_string__impl_GoodName_1 : Ent := mkE tysC 65 [e_impl_GoodName_1] h_slices_IndexFunc_string_string__impl_GoodName_1 Tryz.f65 [(.vw, (.lst false .str)), (.vw, (.fn 45 .unit))] true (.int .i64)
theorem ok_slices_IndexFunc_string_string__impl_GoodName_1 : e_slices_IndexFunc_string_string__impl_GoodName_1.Ok Tryz.prog := mkE_ok envC (ok_cons ok_impl_GoodName_1 ok_nil) Tryz.func65 (by decide +kernel) (by kernel_rfl)
def h_slices_ContainsFunc_string_string__impl_GoodName_1 : List (Nat × Hint) := []
noncomputable def e_slices_ContainsFunc_string_string__impl_GoodName_1 : Ent := mkE tysC 44 [e_slices_IndexFunc_string_string__impl_GoodName_1] h_slices_ContainsFunc_string_string__impl_GoodName_1 Tryz.f44 [(.vw, (.lst false .str)), (.vw, (.fn 45 .unit))] true .bool
theorem ok_slices_ContainsFunc_string_string__impl_GoodName_1 : e_slices_ContainsFunc_string_string__impl_GoodName_1.Ok Tryz.prog := mkE_ok envC (ok_cons ok_slices_IndexFunc_string_string__impl_GoodName_1 ok_nil) Tryz.func44 (by decide +kernel) (by kernel_rfl)
def h_impl_GoodName : List (Nat × Hint) := [(15, .join [(0, ⟨[], [(2, 0, .bool)]⟩)])]
noncomputable def e_impl_GoodName : Ent := mkE tysC 22 [e_impl_labelsOf, e_slices_ContainsFunc_string_string__impl_GoodName_1] h_impl_GoodName Tryz.f22 [(.vw, .str)] true .bool
theorem ok_impl_GoodName : e_impl_GoodName.Ok Tryz.prog := mkE_ok envC (ok_cons ok_impl_labelsOf (ok_cons ok_slices_ContainsFunc_string_string__impl_GoodName_1 ok_nil)) Tryz.func22 (by decide +kernel) (by kernel_rfl)
def h_slices_Index_int_int : List (Nat × Hint) := [(26, .loop ⟨[0, 1, 7], [(8, 0, (.int .i64))]⟩ [(1, ⟨[], [(4, 0, (.int .i64))]⟩), (2, ⟨[], []⟩)])]
noncomputable def e_slices_Index_int_int : Ent := mkE tysC 67 [] h_slices_Index_int_int Tryz.f67 [(.vw, (.lst false (.int .i64))), (.vw, (.int .i64))] true (.int .i64)
theorem ok_slices_Index_int_int : e_slices_Index_int_int.Ok Tryz.prog := mkE_ok envC ok_nil Tryz.func67 (by decide +kernel) (by kernel_rfl)
def h_slices_Contains_int_int : List (Nat × Hint) := []
noncomputable def e_slices_Contains_int_int : Ent := mkE tysC 47 [e_slices_Index_int_int] h_slices_Contains_int_int Tryz.f47 [(.vw, (.lst false (.int .i64))), (.vw, (.int .i64))] true .bool
theorem ok_slices_Contains_int_int : e_slices_Contains_int_int.Ok Tryz.prog := mkE_ok envC (ok_cons ok_slices_Index_int_int ok_nil) Tryz.func47 (by decide +kernel) (by kernel_rfl)
def h_impl_isType : List (Nat × Hint) := []
noncomputable def e_impl_isType : Ent := mkE tysC 23 [e_slices_Contains_int_int] h_impl_isType Tryz.f23 [(.vw, (.int .i64))] true .bool
theorem ok_impl_isType : e_impl_isType.Ok Tryz.prog := mkE_ok envC (ok_cons ok_slices_Contains_int_int ok_nil) Tryz.func23 (by decide +kernel) (by kernel_rfl)
noncomputable abbrev e_strconv_Atoi : Ent := atoiE 126
theorem ok_strconv_Atoi : e_strconv_Atoi.Ok Tryz.prog := atoiE_ok Tryz.l172 (by kernel_rfl) Tryz.func126 (by decide +kernel) rfl glbSyn glbRng
noncomputable abbrev e_strconv_Itoa : Ent := itoaE 127
theorem ok_strconv_Itoa : e_strconv_Itoa.Ok Tryz.prog := itoaE_ok Tryz.l171 (by kernel_rfl) Tryz.func127 (by decide +kernel) rfl (by kernel_rfl) glbPow
def h_impl_numberIn : List (Nat × Hint) := [(7, .join [(0, ⟨[], [(4, 0, (.int .i64)), (5, 0, .bool)]⟩)])]
noncomputable def e_impl_numberIn : Ent := mkE tysC 112 [e_strconv_Atoi, e_impl_within, e_strconv_Itoa] h_impl_numberIn Tryz.f112 [(.vw, .str), (.vw, (.int .i64))] false (.pair (.int .i64) (.pair .bool .unit))
theorem ok_impl_numberIn : e_impl_numberIn.Ok Tryz.prog := mkE_ok envC (ok_cons ok_strconv_Atoi (ok_cons ok_impl_within (ok_cons ok_strconv_Itoa ok_nil))) Tryz.func112 (by decide +kernel) (by kernel_rfl)
def h_impl_big : List (Nat × Hint) := [(58, .loop ⟨[0], [(5, 0, (.lst true (.int .u8))), (6, 0, (.int .i64))]⟩ [(2, ⟨[], [(5, 0, (.lst true (.int .u8)))]⟩)])]
noncomputable def e_impl_big : Ent := mkE tysC 113 [] h_impl_big Tryz.f113 [(.vw, (.int .i64)), (.vw, (.int .i64))] true .str
theorem ok_impl_big : e_impl_big.Ok Tryz.prog := mkE_ok envC ok_nil Tryz.func113 (by decide +kernel) (by kernel_rfl)
noncomputable abbrev e_strings_Contains : Ent := containsE 128
theorem ok_strings_Contains : e_strings_Contains.Ok Tryz.prog := containsE_ok Tryz.l144 (by kernel_rfl) Tryz.func128 (by decide +kernel) rfl glbMaxLen
def h_impl_isTarget : List (Nat × Hint) := [(3, .join [(0, ⟨[], [(2, 0, .bool)]⟩)])]
noncomputable def e_impl_isTarget : Ent := mkE tysC 114 [e_impl_GoodName, e_strings_Contains] h_impl_isTarget Tryz.f114 [(.vw, .str)] true .bool
theorem ok_impl_isTarget : e_impl_isTarget.Ok Tryz.prog := mkE_ok envC (ok_cons ok_impl_GoodName (ok_cons ok_strings_Contains ok_nil)) Tryz.func114 (by decide +kernel) (by kernel_rfl)
def h_impl_labelBytes : List (Nat × Hint) := [(58, .loop ⟨[7, 8], [(3, 0, .str), (9, 0, (.int .i64))]⟩ [(2, ⟨[], [(3, 0, .str)]⟩)])]
noncomputable def e_impl_labelBytes : Ent := mkE tysC 115 [e_impl_labelsOf] h_impl_labelBytes Tryz.f115 [(.vw, .str)] true .str
theorem ok_impl_labelBytes : e_impl_labelBytes.Ok Tryz.prog := mkE_ok envC (ok_cons ok_impl_labelsOf ok_nil) Tryz.func115 (by decide +kernel) (by kernel_rfl)
noncomputable abbrev e_strings_Cut : Ent := cutE 116
theorem ok_strings_Cut : e_strings_Cut.Ok Tryz.prog := cutE_ok Tryz.l145 (by kernel_rfl) Tryz.func116 (by decide +kernel) rfl glbMaxLen
def h_impl_DataBytes_1 : List (Nat × Hint) := [(3, .join [(0, ⟨[], [(2, 0, .bool)]⟩)])]
noncomputable def e_impl_DataBytes_1 : Ent := mkE tysC 118 [] h_impl_DataBytes_1 Tryz.f118 [(.vw, (.int .u8))] true .bool
theorem ok_impl_DataBytes_1 : e_impl_DataBytes_1.Ok Tryz.prog := mkE_ok envC ok_nil Tryz.func118 (by decide +kernel) (by kernel_rfl)
def h_slices_IndexFunc_byte_byte__impl_DataBytes_1 : List (Nat × Hint) := [(26, .loop ⟨[0, 1, 7], [(8, 0, (.int .i64))]⟩ [(1, ⟨[], [(4, 0, (.int .i64))]⟩), (2, ⟨[], []⟩)])]
noncomputable def e_slices_IndexFunc_byte_byte__impl_DataBytes_1 : Ent := mkE tysC 130 [e_impl_DataBytes_1] h_slices_IndexFunc_byte_byte__impl_DataBytes_1 Tryz.f130 [(.vw, (.lst false (.int .u8))), (.vw, (.fn 118 .unit))] true (.int .i64)
theorem ok_slices_IndexFunc_byte_byte__impl_DataBytes_1 : e_slices_IndexFunc_byte_byte__impl_DataBytes_1.Ok Tryz.prog := mkE_ok envC (ok_cons ok_impl_DataBytes_1 ok_nil) Tryz.func130 (by decide +kernel) (by kernel_rfl)
def h_slices_ContainsFunc_byte_byte__impl_DataBytes_1 : List (Nat × Hint) := []
noncomputable def e_slices_ContainsFunc_byte_byte__impl_DataBytes_1 : Ent := mkE tysC 117 [e_slices_IndexFunc_byte_byte__impl_DataBytes_1] h_slices_ContainsFunc_byte_byte__impl_DataBytes_1 Tryz.f117 [(.vw, (.lst false (.int .u8))), (.vw, (.fn 118 .unit))] true .bool
theorem ok_slices_ContainsFunc_byte_byte__impl_DataBytes_1 : e_slices_ContainsFunc_byte_byte__impl_DataBytes_1.Ok Tryz.prog := mkE_ok envC (ok_cons ok_slices_IndexFunc_byte_byte__impl_DataBytes_1 ok_nil) Tryz.func117 (by decide +kernel) (by kernel_rfl)
def h_impl_DataBytes : List (Nat × Hint) := [(55292, .join [(0, ⟨[1], [(103, 0, .bool)]⟩)]), (55286, .join [(0, ⟨[15, 17], [(87, 0, .bool)]⟩)]), (107, .join [(0, ⟨[1, 19], [(48, 0, .bool)]⟩)]), (3418, .loop ⟨[7, 24, 25], [(6, 0, .str), (26, 0, (.int .i64))]⟩ [(1, ⟨[4, 5], []⟩), (3, ⟨[], [(6, 0, .str)]⟩)]), (875110, .join [(0, ⟨[6, 7, 10, 24, 25, 26], [(41, 0, .bool)]⟩)])]
noncomputable def e_impl_DataBytes : Ent := mkE tysC 101 [e_strings_Split, e_impl_numberIn, e_impl_big, e_impl_isTarget, e_impl_labelBytes, e_strings_Cut, e_slices_ContainsFunc_byte_byte__impl_DataBytes_1] h_impl_DataBytes Tryz.f101 [(.vw, (.int .i64)), (.vw, .str)] false (.pair .str (.pair .bool .unit))
theorem ok_impl_DataBytes : e_impl_DataBytes.Ok Tryz.prog := mkE_ok envC (ok_cons ok_strings_Split (ok_cons ok_impl_numberIn (ok_cons ok_impl_big (ok_cons ok_impl_isTarget (ok_cons ok_impl_labelBytes (ok_cons ok_strings_Cut (ok_cons ok_slices_ContainsFunc_byte_byte__impl_DataBytes_1 ok_nil))))))) Tryz.func101 (by decide +kernel) (by kernel_rfl)
def h_impl_GoodRecord : List (Nat × Hint) := [(6, .join [(0, ⟨[1], [(20, 0, .bool)]⟩)])]
noncomputable def e_impl_GoodRecord : Ent := mkE tysC 90 [e_impl_GoodName, e_impl_within, e_impl_DataBytes] h_impl_GoodRecord Tryz.f90 [(.vw, tyR)] true .bool
theorem ok_impl_GoodRecord : e_impl_GoodRecord.Ok Tryz.prog := mkE_ok envC (ok_cons ok_impl_GoodName (ok_cons ok_impl_within (ok_cons ok_impl_DataBytes ok_nil))) Tryz.func90 (by decide +kernel) (by kernel_rfl)
def h_slices_Reverse_string_string : List (Nat × Hint) := [(6, .loop ⟨[], [(0, 0, (.lst true .str)), (2, 0, (.int .i64)), (3, 0, (.int .i64))]⟩ [(2, ⟨[], [(0, 0, (.lst true .str))]⟩)])]
noncomputable def e_slices_Reverse_string_string : Ent := mkE tysC 75 [] h_slices_Reverse_string_string Tryz.f75 [(.io, (.lst true .str))] false .unit
theorem ok_slices_Reverse_string_string : e_slices_Reverse_string_string.Ok Tryz.prog := mkE_ok envC ok_nil Tryz.func75 (by decide +kernel) (by kernel_rfl)
def h_cmp_isNaN_string : List (Nat × Hint) := []
noncomputable def e_cmp_isNaN_string : Ent := mkE tysC 105 [] h_cmp_isNaN_string Tryz.f105 [(.vw, .str)] true .bool
theorem ok_cmp_isNaN_string : e_cmp_isNaN_string.Ok Tryz.prog := mkE_ok envC ok_nil Tryz.func105 (by decide +kernel) (by kernel_rfl)
def h_cmp_Compare_string : List (Nat × Hint) := []
noncomputable def e_cmp_Compare_string : Ent := mkE tysC 93 [e_cmp_isNaN_string] h_cmp_Compare_string Tryz.f93 [(.vw, .str), (.vw, .str)] true (.int .i64)
theorem ok_cmp_Compare_string : e_cmp_Compare_string.Ok Tryz.prog := mkE_ok envC (ok_cons ok_cmp_isNaN_string ok_nil) Tryz.func93 (by decide +kernel) (by kernel_rfl)
def h_slices_Compare_string_string : List (Nat × Hint) := [(26, .loop ⟨[0, 1, 9, 10], [(11, 0, (.int .i64))]⟩ [(1, ⟨[], [(4, 0, (.int .i64))]⟩), (2, ⟨[0, 1], []⟩)])]
noncomputable def e_slices_Compare_string_string : Ent := mkE tysC 76 [e_cmp_Compare_string] h_slices_Compare_string_string Tryz.f76 [(.vw, (.lst false .str)), (.vw, (.lst false .str))] true (.int .i64)
theorem ok_slices_Compare_string_string : e_slices_Compare_string_string.Ok Tryz.prog := mkE_ok envC (ok_cons ok_cmp_Compare_string ok_nil) Tryz.func76 (by decide +kernel) (by kernel_rfl)
def h_impl_compareNames : List (Nat × Hint) := []
noncomputable def e_impl_compareNames : Ent := mkE tysC 62 [e_impl_labelsOf, e_slices_Reverse_string_string, e_slices_Compare_string_string] h_impl_compareNames Tryz.f62 [(.vw, .str), (.vw, .str)] true (.int .i64)
theorem ok_impl_compareNames : e_impl_compareNames.Ok Tryz.prog := mkE_ok envC (ok_cons ok_impl_labelsOf (ok_cons ok_slices_Reverse_string_string (ok_cons ok_slices_Compare_string_string ok_nil))) Tryz.func62 (by decide +kernel) (by kernel_rfl)
def h_cmp_isNaN_int : List (Nat × Hint) := []
noncomputable def e_cmp_isNaN_int : Ent := mkE tysC 77 [] h_cmp_isNaN_int Tryz.f77 [(.vw, (.int .i64))] true .bool
theorem ok_cmp_isNaN_int : e_cmp_isNaN_int.Ok Tryz.prog := mkE_ok envC ok_nil Tryz.func77 (by decide +kernel) (by kernel_rfl)
def h_cmp_Compare_int : List (Nat × Hint) := []
noncomputable def e_cmp_Compare_int : Ent := mkE tysC 63 [e_cmp_isNaN_int] h_cmp_Compare_int Tryz.f63 [(.vw, (.int .i64)), (.vw, (.int .i64))] true (.int .i64)
theorem ok_cmp_Compare_int : e_cmp_Compare_int.Ok Tryz.prog := mkE_ok envC (ok_cons ok_cmp_isNaN_int ok_nil) Tryz.func63 (by decide +kernel) (by kernel_rfl)
def h_cmp_Or_int : List (Nat × Hint) := [(58, .loop ⟨[3, 6, 7], [(8, 0, (.int .i64))]⟩ [(1, ⟨[], [(2, 0, (.int .i64))]⟩), (2, ⟨[3], []⟩)])]
noncomputable def e_cmp_Or_int : Ent := mkE tysC 61 [] h_cmp_Or_int Tryz.f61 [(.vw, (.lst false (.int .i64)))] true (.int .i64)
theorem ok_cmp_Or_int : e_cmp_Or_int.Ok Tryz.prog := mkE_ok envC ok_nil Tryz.func61 (by decide +kernel) (by kernel_rfl)
def h_impl_compareKeys : List (Nat × Hint) := []
noncomputable def e_impl_compareKeys : Ent := mkE tysC 102 [e_impl_compareNames, e_cmp_Compare_int, e_cmp_Or_int] h_impl_compareKeys Tryz.f102 [(.vw, tyR), (.vw, tyR)] true (.int .i64)
theorem ok_impl_compareKeys : e_impl_compareKeys.Ok Tryz.prog := mkE_ok envC (ok_cons ok_impl_compareNames (ok_cons ok_cmp_Compare_int (ok_cons ok_cmp_Or_int ok_nil))) Tryz.func102 (by decide +kernel) (by kernel_rfl)
def h_impl_dataBytes : List (Nat × Hint) := []
noncomputable def e_impl_dataBytes : Ent := mkE tysC 104 [e_impl_DataBytes] h_impl_dataBytes Tryz.f104 [(.vw, (.int .i64)), (.vw, .str)] true .str
theorem ok_impl_dataBytes : e_impl_dataBytes.Ok Tryz.prog := mkE_ok envC (ok_cons ok_impl_DataBytes ok_nil) Tryz.func104 (by decide +kernel) (by kernel_rfl)
noncomputable abbrev e_strings_Compare : Ent := compareE 103
theorem ok_strings_Compare : e_strings_Compare.Ok Tryz.prog := compareE_ok Tryz.l106 (by kernel_rfl) Tryz.func103 (by decide +kernel) rfl
def h_impl_compareRecords : List (Nat × Hint) := []
noncomputable def e_impl_compareRecords : Ent := mkE tysC 91 [e_impl_compareKeys, e_impl_dataBytes, e_strings_Compare, e_cmp_Compare_int, e_cmp_Or_int] h_impl_compareRecords Tryz.f91 [(.vw, tyR), (.vw, tyR)] true (.int .i64)
theorem ok_impl_compareRecords : e_impl_compareRecords.Ok Tryz.prog := mkE_ok envC (ok_cons ok_impl_compareKeys (ok_cons ok_impl_dataBytes (ok_cons ok_strings_Compare (ok_cons ok_cmp_Compare_int (ok_cons ok_cmp_Or_int ok_nil))))) Tryz.func91 (by decide +kernel) (by kernel_rfl)
def h_impl_areRising : List (Nat × Hint) := [(26, .loop ⟨[0, 5, 6], [(7, 0, (.int .i64))]⟩ [(1, ⟨[2], []⟩), (2, ⟨[], []⟩)]), (1689, .join [(0, ⟨[0, 5, 6, 7], [(28, 0, .bool)]⟩)])]
noncomputable def e_impl_areRising : Ent := mkE tysC 72 [e_impl_GoodRecord, e_impl_compareRecords] h_impl_areRising Tryz.f72 [(.vw, tyRf)] true .bool
theorem ok_impl_areRising : e_impl_areRising.Ok Tryz.prog := mkE_ok envC (ok_cons ok_impl_GoodRecord (ok_cons ok_impl_compareRecords ok_nil)) Tryz.func72 (by decide +kernel) (by kernel_rfl)
def h_impl_areOne_1 : List (Nat × Hint) := [(3, .join [(0, ⟨[], [(5, 0, .bool)]⟩)])]
noncomputable def e_impl_areOne_1 : Ent := mkE tysC 74 [] h_impl_areOne_1 Tryz.f74 [(.vw, tyR), (.vw, (.ptr .str)), (.vw, (.ptr (.int .i64))), (.vw, (.ptr tyRf))] true .bool
theorem ok_impl_areOne_1 : e_impl_areOne_1.Ok Tryz.prog := mkE_ok envC ok_nil Tryz.func74 (by decide +kernel) (by kernel_rfl)
def h_slices_IndexFunc_impl_Record_impl_Record__impl_areOne_1 : List (Nat × Hint) := [(26, .loop ⟨[0, 1, 7], [(8, 0, (.int .i64))]⟩ [(1, ⟨[], [(4, 0, (.int .i64))]⟩), (2, ⟨[], []⟩)])]
noncomputable def e_slices_IndexFunc_impl_Record_impl_Record__impl_areOne_1 : Ent := mkE tysC 92 [e_impl_areOne_1] h_slices_IndexFunc_impl_Record_impl_Record__impl_areOne_1 Tryz.f92 [(.vw, tyRf), (.vw, (.fn 74 (.pair (.ptr .str) (.pair (.ptr (.int .i64)) (.pair (.ptr tyRf) .unit)))))] true (.int .i64)
theorem ok_slices_IndexFunc_impl_Record_impl_Record__impl_areOne_1 : e_slices_IndexFunc_impl_Record_impl_Record__impl_areOne_1.Ok Tryz.prog := mkE_ok envC (ok_cons ok_impl_areOne_1 ok_nil) Tryz.func92 (by decide +kernel) (by kernel_rfl)
def h_slices_ContainsFunc_impl_Record_impl_Record__impl_areOne_1 : List (Nat × Hint) := []
noncomputable def e_slices_ContainsFunc_impl_Record_impl_Record__impl_areOne_1 : Ent := mkE tysC 73 [e_slices_IndexFunc_impl_Record_impl_Record__impl_areOne_1] h_slices_ContainsFunc_impl_Record_impl_Record__impl_areOne_1 Tryz.f73 [(.vw, tyRf), (.vw, (.fn 74 (.pair (.ptr .str) (.pair (.ptr (.int .i64)) (.pair (.ptr tyRf) .unit)))))] true .bool
theorem ok_slices_ContainsFunc_impl_Record_impl_Record__impl_areOne_1 : e_slices_ContainsFunc_impl_Record_impl_Record__impl_areOne_1.Ok Tryz.prog := mkE_ok envC (ok_cons ok_slices_IndexFunc_impl_Record_impl_Record__impl_areOne_1 ok_nil) Tryz.func73 (by decide +kernel) (by kernel_rfl)
def h_impl_areOne : List (Nat × Hint) := [(3, .join [(0, ⟨[], [(6, 0, .bool)]⟩)])]
noncomputable def e_impl_areOne : Ent := mkE tysC 60 [e_impl_within, e_impl_areRising, e_slices_ContainsFunc_impl_Record_impl_Record__impl_areOne_1] h_impl_areOne Tryz.f60 [(.vw, tyRf), (.vw, .str), (.vw, (.int .i64))] true .bool
theorem ok_impl_areOne : e_impl_areOne.Ok Tryz.prog := mkE_ok envC (ok_cons ok_impl_within (ok_cons ok_impl_areRising (ok_cons ok_slices_ContainsFunc_impl_Record_impl_Record__impl_areOne_1 ok_nil))) Tryz.func60 (by decide +kernel) (by kernel_rfl)
def h_impl_isEntry : List (Nat × Hint) := [(6, .join [(0, ⟨[3], [(34, 0, .bool)]⟩)])]
noncomputable def e_impl_isEntry : Ent := mkE tysC 41 [e_impl_GoodName, e_impl_isType, e_impl_within, e_impl_areOne] h_impl_isEntry Tryz.f41 [(.vw, (.pair (.int .i64) (.pair (.lst false (.pair .str (.pair (.int .i64) (.pair .bool (.pair tyRf (.pair (.int .i64) (.pair (.int .i64) .unit))))))) .unit))), (.vw, (.pair .str (.pair (.int .i64) (.pair .bool (.pair tyRf (.pair (.int .i64) (.pair (.int .i64) .unit)))))))] true .bool
theorem ok_impl_isEntry : e_impl_isEntry.Ok Tryz.prog := mkE_ok envC (ok_cons ok_impl_GoodName (ok_cons ok_impl_isType (ok_cons ok_impl_within (ok_cons ok_impl_areOne ok_nil)))) Tryz.func41 (by decide +kernel) (by kernel_rfl)
def h_impl_compareEntry : List (Nat × Hint) := []
noncomputable def e_impl_compareEntry : Ent := mkE tysC 42 [e_impl_compareNames, e_cmp_Compare_int, e_cmp_Or_int] h_impl_compareEntry Tryz.f42 [(.vw, (.pair .str (.pair (.int .i64) (.pair .bool (.pair tyRf (.pair (.int .i64) (.pair (.int .i64) .unit))))))), (.vw, .str), (.vw, (.int .i64))] true (.int .i64)
theorem ok_impl_compareEntry : e_impl_compareEntry.Ok Tryz.prog := mkE_ok envC (ok_cons ok_impl_compareNames (ok_cons ok_cmp_Compare_int (ok_cons ok_cmp_Or_int ok_nil))) Tryz.func42 (by decide +kernel) (by kernel_rfl)
def h_impl_GoodCache : List (Nat × Hint) := [(58, .loop ⟨[1, 16, 17], [(18, 0, (.int .i64))]⟩ [(1, ⟨[], [(2, 0, .bool)]⟩), (2, ⟨[], []⟩)]), (3737, .join [(0, ⟨[1, 16, 17, 18], [(44, 0, .bool)]⟩)]), (6, .join [(0, ⟨[1], [(14, 0, .bool)]⟩)])]
noncomputable def e_impl_GoodCache : Ent := mkE tysC 21 [e_impl_within, e_impl_isEntry, e_impl_compareEntry] h_impl_GoodCache Tryz.f21 [(.vw, (.pair (.int .i64) (.pair (.lst false (.pair .str (.pair (.int .i64) (.pair .bool (.pair tyRf (.pair (.int .i64) (.pair (.int .i64) .unit))))))) .unit)))] true .bool
theorem ok_impl_GoodCache : e_impl_GoodCache.Ok Tryz.prog := mkE_ok envC (ok_cons ok_impl_within (ok_cons ok_impl_isEntry (ok_cons ok_impl_compareEntry ok_nil))) Tryz.func21 (by decide +kernel) (by kernel_rfl)
def h_slices_Clone_impl_Record_impl_Record : List (Nat × Hint) := []
noncomputable def e_slices_Clone_impl_Record_impl_Record : Ent := mkE tysC 50 [] h_slices_Clone_impl_Record_impl_Record Tryz.f50 [(.vw, tyRf)] true tyRt
theorem ok_slices_Clone_impl_Record_impl_Record : e_slices_Clone_impl_Record_impl_Record.Ok Tryz.prog := mkE_ok envC ok_nil Tryz.func50 (by decide +kernel) (by kernel_rfl)
def h_impl_ownEntry : List (Nat × Hint) := []
noncomputable def e_impl_ownEntry : Ent := mkE tysC 26 [e_slices_Clone_impl_Record_impl_Record] h_impl_ownEntry Tryz.f26 [(.vw, (.pair .str (.pair (.int .i64) (.pair .bool (.pair tyRf (.pair (.int .i64) (.pair (.int .i64) .unit)))))))] true (.pair .str (.pair (.int .i64) (.pair .bool (.pair tyRt (.pair (.int .i64) (.pair (.int .i64) .unit))))))
theorem ok_impl_ownEntry : e_impl_ownEntry.Ok Tryz.prog := mkE_ok envC (ok_cons ok_slices_Clone_impl_Record_impl_Record ok_nil) Tryz.func26 (by decide +kernel) (by kernel_rfl)
def h_impl_ownCache : List (Nat × Hint) := [(58, .loop ⟨[2, 10, 11], [(3, 2, (.pair (.int .i64) (.pair (.lst true (.pair .str (.pair (.int .i64) (.pair .bool (.pair tyRt (.pair (.int .i64) (.pair (.int .i64) .unit))))))) .unit))), (12, 0, (.int .i64))]⟩ [(2, ⟨[2], [(3, 2, (.pair (.int .i64) (.pair (.lst true (.pair .str (.pair (.int .i64) (.pair .bool (.pair tyRt (.pair (.int .i64) (.pair (.int .i64) .unit))))))) .unit)))]⟩)])]
noncomputable def e_impl_ownCache : Ent := mkE tysC 24 [e_impl_ownEntry] h_impl_ownCache Tryz.f24 [(.vw, (.pair (.int .i64) (.pair (.lst false (.pair .str (.pair (.int .i64) (.pair .bool (.pair tyRf (.pair (.int .i64) (.pair (.int .i64) .unit))))))) .unit)))] true (.pair (.int .i64) (.pair (.lst true (.pair .str (.pair (.int .i64) (.pair .bool (.pair tyRt (.pair (.int .i64) (.pair (.int .i64) .unit))))))) .unit))
theorem ok_impl_ownCache : e_impl_ownCache.Ok Tryz.prog := mkE_ok envC (ok_cons ok_impl_ownEntry ok_nil) Tryz.func24 (by decide +kernel) (by kernel_rfl)
def h_impl_Cache_find_1 : List (Nat × Hint) := []
noncomputable def e_impl_Cache_find_1 : Ent := mkE tysC 49 [e_impl_compareEntry] h_impl_Cache_find_1 Tryz.f49 [(.vw, (.pair .str (.pair (.int .i64) (.pair .bool (.pair tyRf (.pair (.int .i64) (.pair (.int .i64) .unit))))))), (.vw, (.int .i64)), (.vw, (.ptr .str))] true (.int .i64)
theorem ok_impl_Cache_find_1 : e_impl_Cache_find_1.Ok Tryz.prog := mkE_ok envC (ok_cons ok_impl_compareEntry ok_nil) Tryz.func49 (by decide +kernel) (by kernel_rfl)
def h_slices_BinarySearchFunc_impl_Entry_impl_Entry_int__impl_Cache_find_1 : List (Nat × Hint) := [(31, .join [(0, ⟨[], [(6, 0, (.int .i64)), (7, 0, .bool)]⟩)]), (60, .loop ⟨[0, 1, 2, 8], [(9, 0, (.int .i64)), (10, 0, (.int .i64))]⟩ [(2, ⟨[0, 1, 2, 8], [(9, 0, (.int .i64))]⟩)])]
noncomputable def e_slices_BinarySearchFunc_impl_Entry_impl_Entry_int__impl_Cache_find_1 : Ent := mkE tysC 48 [e_impl_Cache_find_1] h_slices_BinarySearchFunc_impl_Entry_impl_Entry_int__impl_Cache_find_1 Tryz.f48 [(.vw, (.lst false (.pair .str (.pair (.int .i64) (.pair .bool (.pair tyRf (.pair (.int .i64) (.pair (.int .i64) .unit)))))))), (.vw, (.int .i64)), (.vw, (.fn 49 (.pair (.ptr .str) .unit)))] false (.pair (.int .i64) (.pair .bool .unit))
theorem ok_slices_BinarySearchFunc_impl_Entry_impl_Entry_int__impl_Cache_find_1 : e_slices_BinarySearchFunc_impl_Entry_impl_Entry_int__impl_Cache_find_1.Ok Tryz.prog := mkE_ok envC (ok_cons ok_impl_Cache_find_1 ok_nil) Tryz.func48 (by decide +kernel) (by kernel_rfl)
def h_impl_Cache_find : List (Nat × Hint) := []
noncomputable def e_impl_Cache_find : Ent := mkE tysC 25 [e_slices_BinarySearchFunc_impl_Entry_impl_Entry_int__impl_Cache_find_1] h_impl_Cache_find Tryz.f25 [(.vw, (.pair (.int .i64) (.pair (.lst false (.pair .str (.pair (.int .i64) (.pair .bool (.pair tyRf (.pair (.int .i64) (.pair (.int .i64) .unit))))))) .unit))), (.vw, .str), (.vw, (.int .i64))] false (.pair (.int .i64) (.pair .bool .unit))
theorem ok_impl_Cache_find : e_impl_Cache_find.Ok Tryz.prog := mkE_ok envC (ok_cons ok_slices_BinarySearchFunc_impl_Entry_impl_Entry_int__impl_Cache_find_1 ok_nil) Tryz.func25 (by decide +kernel) (by kernel_rfl)
def h_impl_AskCache : List (Nat × Hint) := [(2042, .loop ⟨[6, 7, 9, 57], [(12, 2, (.pair .str (.pair (.int .i64) (.pair .bool (.pair tyRt (.pair (.int .i64) (.pair (.int .i64) .unit))))))), (58, 0, (.int .i64))]⟩ [(2, ⟨[6, 7, 9], [(12, 2, (.pair .str (.pair (.int .i64) (.pair .bool (.pair tyRt (.pair (.int .i64) (.pair (.int .i64) .unit)))))))]⟩)]), (6, .join [(0, ⟨[1, 2, 3, 6, 7], [(26, 0, .bool)]⟩)])]
noncomputable def e_impl_AskCache : Ent := mkE tysC 7 [e_impl_GoodCache, e_impl_GoodName, e_impl_isType, e_impl_ownCache, e_impl_Cache_find, e_impl_ownEntry] h_impl_AskCache Tryz.f7 [(.vw, (.pair (.int .i64) (.pair (.lst false (.pair .str (.pair (.int .i64) (.pair .bool (.pair tyRf (.pair (.int .i64) (.pair (.int .i64) .unit))))))) .unit))), (.vw, .str), (.vw, (.int .i64))] false (.pair (.pair (.int .i64) (.pair (.lst true (.pair .str (.pair (.int .i64) (.pair .bool (.pair tyRt (.pair (.int .i64) (.pair (.int .i64) .unit))))))) .unit)) (.pair (.pair .str (.pair (.int .i64) (.pair .bool (.pair tyRt (.pair (.int .i64) (.pair (.int .i64) .unit)))))) (.pair .bool .unit)))
theorem ok_impl_AskCache : e_impl_AskCache.Ok Tryz.prog := mkE_ok envC (ok_cons ok_impl_GoodCache (ok_cons ok_impl_GoodName (ok_cons ok_impl_isType (ok_cons ok_impl_ownCache (ok_cons ok_impl_Cache_find (ok_cons ok_impl_ownEntry ok_nil)))))) Tryz.func7 (by decide +kernel) (by kernel_rfl)
def h_laws_eqRecord : List (Nat × Hint) := []
noncomputable def e_laws_eqRecord : Ent := mkE tysC 51 [] h_laws_eqRecord Tryz.f51 [(.vw, tyR), (.vw, tyR)] true .bool
theorem ok_laws_eqRecord : e_laws_eqRecord.Ok Tryz.prog := mkE_ok envC ok_nil Tryz.func51 (by decide +kernel) (by kernel_rfl)
def h_laws_eqRecordS : List (Nat × Hint) := [(58, .loop ⟨[0, 1], [(5, 0, (.int .i64))]⟩ [(1, ⟨[4], []⟩), (2, ⟨[], []⟩)])]
noncomputable def e_laws_eqRecordS : Ent := mkE tysC 28 [e_laws_eqRecord] h_laws_eqRecordS Tryz.f28 [(.vw, tyRf), (.vw, tyRf)] true .bool
theorem ok_laws_eqRecordS : e_laws_eqRecordS.Ok Tryz.prog := mkE_ok envC (ok_cons ok_laws_eqRecord ok_nil) Tryz.func28 (by decide +kernel) (by kernel_rfl)
def h_laws_eqEntry : List (Nat × Hint) := []
noncomputable def e_laws_eqEntry : Ent := mkE tysC 9 [e_laws_eqRecordS] h_laws_eqEntry Tryz.f9 [(.vw, (.pair .str (.pair (.int .i64) (.pair .bool (.pair tyRf (.pair (.int .i64) (.pair (.int .i64) .unit))))))), (.vw, (.pair .str (.pair (.int .i64) (.pair .bool (.pair tyRf (.pair (.int .i64) (.pair (.int .i64) .unit)))))))] true .bool
theorem ok_laws_eqEntry : e_laws_eqEntry.Ok Tryz.prog := mkE_ok envC (ok_cons ok_laws_eqRecordS ok_nil) Tryz.func9 (by decide +kernel) (by kernel_rfl)
def h_laws_eqEntryS : List (Nat × Hint) := [(58, .loop ⟨[0, 1], [(5, 0, (.int .i64))]⟩ [(1, ⟨[4], []⟩), (2, ⟨[], []⟩)])]
noncomputable def e_laws_eqEntryS : Ent := mkE tysC 27 [e_laws_eqEntry] h_laws_eqEntryS Tryz.f27 [(.vw, (.lst false (.pair .str (.pair (.int .i64) (.pair .bool (.pair tyRf (.pair (.int .i64) (.pair (.int .i64) .unit)))))))), (.vw, (.lst false (.pair .str (.pair (.int .i64) (.pair .bool (.pair tyRf (.pair (.int .i64) (.pair (.int .i64) .unit))))))))] true .bool
theorem ok_laws_eqEntryS : e_laws_eqEntryS.Ok Tryz.prog := mkE_ok envC (ok_cons ok_laws_eqEntry ok_nil) Tryz.func27 (by decide +kernel) (by kernel_rfl)
def h_laws_eqCache : List (Nat × Hint) := []
noncomputable def e_laws_eqCache : Ent := mkE tysC 8 [e_laws_eqEntryS] h_laws_eqCache Tryz.f8 [(.vw, (.pair (.int .i64) (.pair (.lst false (.pair .str (.pair (.int .i64) (.pair .bool (.pair tyRf (.pair (.int .i64) (.pair (.int .i64) .unit))))))) .unit))), (.vw, (.pair (.int .i64) (.pair (.lst false (.pair .str (.pair (.int .i64) (.pair .bool (.pair tyRf (.pair (.int .i64) (.pair (.int .i64) .unit))))))) .unit)))] true .bool
theorem ok_laws_eqCache : e_laws_eqCache.Ok Tryz.prog := mkE_ok envC (ok_cons ok_laws_eqEntryS ok_nil) Tryz.func8 (by decide +kernel) (by kernel_rfl)
def h_laws_markText : List (Nat × Hint) := [(60, .loop ⟨[], [(0, 0, (.int .i64)), (3, 0, .str)]⟩ [(2, ⟨[], [(3, 0, .str)]⟩)])]
noncomputable def e_laws_markText : Ent := mkE tysC 52 [] h_laws_markText Tryz.f52 [(.vw, (.int .i64))] true .str
theorem ok_laws_markText : e_laws_markText.Ok Tryz.prog := mkE_ok envC ok_nil Tryz.func52 (by decide +kernel) (by kernel_rfl)
def h_laws_markRecordS : List (Nat × Hint) := [(26, .loop ⟨[], [(0, 0, tyRt), (1, 0, (.int .i64)), (5, 0, (.int .i64))]⟩ [(2, ⟨[], [(0, 0, tyRt), (1, 0, (.int .i64))]⟩)])]
noncomputable def e_laws_markRecordS : Ent := mkE tysC 30 [e_laws_markText] h_laws_markRecordS Tryz.f30 [(.io, tyRt), (.vw, (.int .i64))] true (.int .i64)
theorem ok_laws_markRecordS : e_laws_markRecordS.Ok Tryz.prog := mkE_ok envC (ok_cons ok_laws_markText ok_nil) Tryz.func30 (by decide +kernel) (by kernel_rfl)
def h_laws_markEntryS : List (Nat × Hint) := [(26, .loop ⟨[], [(0, 0, (.lst true (.pair .str (.pair (.int .i64) (.pair .bool (.pair tyRt (.pair (.int .i64) (.pair (.int .i64) .unit)))))))), (1, 0, (.int .i64)), (5, 0, (.int .i64))]⟩ [(2, ⟨[], [(0, 0, (.lst true (.pair .str (.pair (.int .i64) (.pair .bool (.pair tyRt (.pair (.int .i64) (.pair (.int .i64) .unit)))))))), (1, 0, (.int .i64))]⟩)])]
noncomputable def e_laws_markEntryS : Ent := mkE tysC 29 [e_laws_markText, e_laws_markRecordS] h_laws_markEntryS Tryz.f29 [(.io, (.lst true (.pair .str (.pair (.int .i64) (.pair .bool (.pair tyRt (.pair (.int .i64) (.pair (.int .i64) .unit)))))))), (.vw, (.int .i64))] true (.int .i64)
theorem ok_laws_markEntryS : e_laws_markEntryS.Ok Tryz.prog := mkE_ok envC (ok_cons ok_laws_markText (ok_cons ok_laws_markRecordS ok_nil)) Tryz.func29 (by decide +kernel) (by kernel_rfl)
def h_laws_markCache : List (Nat × Hint) := []
noncomputable def e_laws_markCache : Ent := mkE tysC 10 [e_laws_markEntryS] h_laws_markCache Tryz.f10 [(.io, (.pair (.int .i64) (.pair (.lst true (.pair .str (.pair (.int .i64) (.pair .bool (.pair tyRt (.pair (.int .i64) (.pair (.int .i64) .unit))))))) .unit))), (.vw, (.int .i64))] true (.int .i64)
theorem ok_laws_markCache : e_laws_markCache.Ok Tryz.prog := mkE_ok envC (ok_cons ok_laws_markEntryS ok_nil) Tryz.func10 (by decide +kernel) (by kernel_rfl)
def h_laws_markEntry : List (Nat × Hint) := []
noncomputable def e_laws_markEntry : Ent := mkE tysC 11 [e_laws_markRecordS] h_laws_markEntry Tryz.f11 [(.io, (.pair .str (.pair (.int .i64) (.pair .bool (.pair tyRt (.pair (.int .i64) (.pair (.int .i64) .unit))))))), (.vw, (.int .i64))] true (.int .i64)
theorem ok_laws_markEntry : e_laws_markEntry.Ok Tryz.prog := mkE_ok envC (ok_cons ok_laws_markRecordS ok_nil) Tryz.func11 (by decide +kernel) (by kernel_rfl)
def h_laws_heldRecordS : List (Nat × Hint) := [(26, .loop ⟨[0], [(1, 0, (.int .i64)), (5, 0, (.int .i64))]⟩ [(1, ⟨[], [(4, 0, (.int .i64))]⟩), (2, ⟨[], [(1, 0, (.int .i64))]⟩)])]
noncomputable def e_laws_heldRecordS : Ent := mkE tysC 32 [e_laws_markText] h_laws_heldRecordS Tryz.f32 [(.vw, tyRf), (.vw, (.int .i64))] true (.int .i64)
theorem ok_laws_heldRecordS : e_laws_heldRecordS.Ok Tryz.prog := mkE_ok envC (ok_cons ok_laws_markText ok_nil) Tryz.func32 (by decide +kernel) (by kernel_rfl)
def h_laws_heldEntryS : List (Nat × Hint) := [(26, .loop ⟨[0], [(1, 0, (.int .i64)), (5, 0, (.int .i64))]⟩ [(1, ⟨[], [(4, 0, (.int .i64))]⟩), (2, ⟨[], [(1, 0, (.int .i64))]⟩)])]
noncomputable def e_laws_heldEntryS : Ent := mkE tysC 31 [e_laws_markText, e_laws_heldRecordS] h_laws_heldEntryS Tryz.f31 [(.vw, (.lst false (.pair .str (.pair (.int .i64) (.pair .bool (.pair tyRf (.pair (.int .i64) (.pair (.int .i64) .unit)))))))), (.vw, (.int .i64))] true (.int .i64)
theorem ok_laws_heldEntryS : e_laws_heldEntryS.Ok Tryz.prog := mkE_ok envC (ok_cons ok_laws_markText (ok_cons ok_laws_heldRecordS ok_nil)) Tryz.func31 (by decide +kernel) (by kernel_rfl)
def h_laws_heldCache : List (Nat × Hint) := []
noncomputable def e_laws_heldCache : Ent := mkE tysC 12 [e_laws_heldEntryS] h_laws_heldCache Tryz.f12 [(.vw, (.pair (.int .i64) (.pair (.lst false (.pair .str (.pair (.int .i64) (.pair .bool (.pair tyRf (.pair (.int .i64) (.pair (.int .i64) .unit))))))) .unit))), (.vw, (.int .i64))] true (.int .i64)
theorem ok_laws_heldCache : e_laws_heldCache.Ok Tryz.prog := mkE_ok envC (ok_cons ok_laws_heldEntryS ok_nil) Tryz.func12 (by decide +kernel) (by kernel_rfl)
def h_laws_heldEntry : List (Nat × Hint) := []
noncomputable def e_laws_heldEntry : Ent := mkE tysC 13 [e_laws_heldRecordS] h_laws_heldEntry Tryz.f13 [(.vw, (.pair .str (.pair (.int .i64) (.pair .bool (.pair tyRf (.pair (.int .i64) (.pair (.int .i64) .unit))))))), (.vw, (.int .i64))] true (.int .i64)
theorem ok_laws_heldEntry : e_laws_heldEntry.Ok Tryz.prog := mkE_ok envC (ok_cons ok_laws_heldRecordS ok_nil) Tryz.func13 (by decide +kernel) (by kernel_rfl)
def h_laws_FnExactAskCache : List (Nat × Hint) := [(33554430, .join [(0, ⟨[12, 13, 16], [(132, 0, .bool)]⟩)]), (16382, .join [(0, ⟨[1, 2, 3, 8, 9, 10, 12, 13], [(89, 0, .bool)]⟩)]), (1022, .join [(0, ⟨[1, 2, 3, 8, 9, 10, 11, 12, 13, 14], [(62, 0, .bool)]⟩)])]
noncomputable def e_laws_FnExactAskCache : Ent := mkE tysC 3 [e_laws_szCache, e_laws_toCache, e_spec_AskCache, e_impl_AskCache, e_laws_eqCache, e_laws_eqEntry, e_laws_markCache, e_laws_markEntry, e_laws_heldCache, e_laws_heldEntry] h_laws_FnExactAskCache Tryz.f3 [(.vw, (.pair (.int .i64) (.pair (.lst false (.pair .str (.pair (.int .i64) (.pair .bool (.pair tyRf (.pair (.int .i64) (.pair (.int .i64) .unit))))))) .unit))), (.vw, .str), (.vw, (.int .i64))] true .bool
theorem ok_laws_FnExactAskCache : e_laws_FnExactAskCache.Ok Tryz.prog := mkE_ok envC (ok_cons ok_laws_szCache (ok_cons ok_laws_toCache (ok_cons ok_spec_AskCache (ok_cons ok_impl_AskCache (ok_cons ok_laws_eqCache (ok_cons ok_laws_eqEntry (ok_cons ok_laws_markCache (ok_cons ok_laws_markEntry (ok_cons ok_laws_heldCache (ok_cons ok_laws_heldEntry ok_nil)))))))))) Tryz.func3 (by decide +kernel) (by kernel_rfl)
end Go.Proofs.YtbcocgbppbjdhaaGreatDoor
