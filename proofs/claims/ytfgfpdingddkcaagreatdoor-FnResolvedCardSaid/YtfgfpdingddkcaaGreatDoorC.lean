/- The functions that the law reaches, each as a program of expressions. -/
import Derived.Test.YtfgfpdingddkcaaGreatDoorLb1
import Derived.Test.YtfgfpdingddkcaaGreatDoorProg
import Derived.KernelRfl
import Derived.Test.YtfgfpdingddkcaaGreatDoorLays
set_option linter.unusedSectionVars false
set_option linter.unusedVariables false
set_option linter.unusedSimpArgs false
namespace Go.Proofs.YtfgfpdingddkcaaGreatDoor
open Go Go.Own
set_option maxRecDepth 100000
instance glbI : Glb := Glb.at [(0, isInt .i64), (6, isErr), (7, isErr), (3, isArr (Lib.pow10Tab.map fun z => Value.int .u64 z).toArray)]
theorem glbMaxLen : ∀ h V, Glb.ok h V → ∃ m arr ty fz, h[Tryz.l146_ren.g 1]? = some (.cells arr ty fz) ∧ arr[0]? = some (.int .i64 m) :=
  fun _ _ h => isInt_get (h (0, isInt .i64) (by simp)).2
theorem glbSyn : ∀ h V, Glb.ok h V → ∃ ev arr ty fz, h[Tryz.l172_ren.g 15]? = some (.cells arr ty fz) ∧ arr[0]? = some ev ∧ (ev = .nilIface ∨ ∃ te pe, ev = .iface te pe) :=
  fun _ _ h => isErr_get (h (6, isErr) (by simp)).2
theorem glbRng : ∀ h V, Glb.ok h V → ∃ ev arr ty fz, h[Tryz.l172_ren.g 16]? = some (.cells arr ty fz) ∧ arr[0]? = some ev ∧ (ev = .nilIface ∨ ∃ te pe, ev = .iface te pe) :=
  fun _ _ h => isErr_get (h (7, isErr) (by simp)).2
theorem glbPow : ∀ h V, Glb.ok h V → ∃ ty fz, h[3]? = some (.cells (Lib.pow10Tab.map fun z => Value.int .u64 z).toArray ty fz) :=
  fun _ _ h => isArr_get (h (3, isArr (Lib.pow10Tab.map fun z => Value.int .u64 z).toArray) (by simp)).2
abbrev tyR : T := .pair .str (.pair (.int .i64) (.pair (.int .i64) (.pair .str .unit)))
abbrev tyD : T := .pair (.int .i64) (.pair (.int .i64) (.pair (.int .i64) (.pair (.int .i64) .unit)))
abbrev tyRf : T := .lst false tyR
abbrev tyRt : T := .lst true tyR
abbrev tyZf : T := .pair .str (.pair (.int .i64) (.pair tyRf .unit))
abbrev tyZt : T := .pair .str (.pair (.int .i64) (.pair tyRt .unit))
def tysC : List (TypeId × T × Nat) := [(3, (.int .i64), 0), (4, .bool, 0), (5, (.int .u8), 0), (9, .str, 0), (22, (.lst true (.int .u8)), 1), (23, (.lst true tyZt), 48), (25, (.pair (.lst true tyZt) .unit), 0), (28, tyRt, 48), (30, (.pair (.int .i64) (.pair tyRt (.pair tyRt (.pair .str (.pair (.int .i64) .unit))))), 0), (36, tyR, 0), (37, (.lst true .str), 16), (41, (.pair (.int .i64) (.pair .str (.pair tyRt (.pair tyRt .unit)))), 0), (47, (.int .u64), 0), (49, (.pair (.lst true (.int .u8)) (.pair (.int .i64) (.pair (.int .u64) .unit))), 0), (53, (.lst true (.int .i64)), 8), (58, tyZt, 0), (73, (.lst true (.pair (.int .i64) (.pair tyR .unit))), 56), (106, (.pair (.int .i64) (.pair tyR .unit)), 0), (118, (.int .u64), 0), (167, .err, 0)]
theorem envC : ∀ sig n fx fr, EnvOk Tryz.prog ⟨tyOf tysC, ebOf tysC, sig, n, fx, fr⟩ := by
  refine EnvOk.ofL (fun sig n fx fr t ht => ?_) (by kernel_rfl)
  simp only [tysC, List.map_cons, List.map_nil, List.mem_cons] at ht
  rcases ht with rfl | ht
  · exact ⟨Tryz.underlying3, rfl, by kernel_rfl, by kernel_rfl⟩
  rcases ht with rfl | ht
  · exact ⟨Tryz.underlying4, rfl, by kernel_rfl, by kernel_rfl⟩
  rcases ht with rfl | ht
  · exact ⟨Tryz.underlying5, rfl, by kernel_rfl, by kernel_rfl⟩
  rcases ht with rfl | ht
  · exact ⟨Tryz.underlying9, rfl, by kernel_rfl, by kernel_rfl⟩
  rcases ht with rfl | ht
  · exact ⟨⟨rfl, _, Tryz.underlying22, rfl, rfl, by kernel_rfl⟩, rfl, by kernel_rfl, by kernel_rfl⟩
  rcases ht with rfl | ht
  · exact ⟨⟨rfl, _, Tryz.underlying23, rfl, rfl, by kernel_rfl⟩, rfl, by kernel_rfl, by kernel_rfl⟩
  rcases ht with rfl | ht
  · exact ⟨⟨_, Tryz.underlying25, rfl, rfl, rfl, trivial⟩, rfl, by kernel_rfl, by kernel_rfl⟩
  rcases ht with rfl | ht
  · exact ⟨⟨rfl, _, Tryz.underlying28, rfl, rfl, by kernel_rfl⟩, rfl, by kernel_rfl, by kernel_rfl⟩
  rcases ht with rfl | ht
  · exact ⟨⟨_, Tryz.underlying30, rfl, rfl, rfl, rfl, rfl, rfl, rfl, rfl, rfl, rfl, rfl, rfl, rfl, rfl, rfl, trivial⟩, rfl, by kernel_rfl, by kernel_rfl⟩
  rcases ht with rfl | ht
  · exact ⟨⟨_, Tryz.underlying36, rfl, rfl, rfl, rfl, rfl, rfl, rfl, rfl, rfl, rfl, rfl, rfl, trivial⟩, rfl, by kernel_rfl, by kernel_rfl⟩
  rcases ht with rfl | ht
  · exact ⟨⟨rfl, _, Tryz.underlying37, rfl, rfl, by kernel_rfl⟩, rfl, by kernel_rfl, by kernel_rfl⟩
  rcases ht with rfl | ht
  · exact ⟨⟨_, Tryz.underlying41, rfl, rfl, rfl, rfl, rfl, rfl, rfl, rfl, rfl, rfl, rfl, rfl, trivial⟩, rfl, by kernel_rfl, by kernel_rfl⟩
  rcases ht with rfl | ht
  · exact ⟨Tryz.underlying47, rfl, by kernel_rfl, by kernel_rfl⟩
  rcases ht with rfl | ht
  · exact ⟨⟨_, Tryz.underlying49, rfl, rfl, rfl, rfl, rfl, rfl, rfl, rfl, rfl, trivial⟩, rfl, by kernel_rfl, by kernel_rfl⟩
  rcases ht with rfl | ht
  · exact ⟨⟨rfl, _, Tryz.underlying53, rfl, rfl, by kernel_rfl⟩, rfl, by kernel_rfl, by kernel_rfl⟩
  rcases ht with rfl | ht
  · exact ⟨⟨_, Tryz.underlying58, rfl, rfl, rfl, rfl, rfl, rfl, rfl, rfl, rfl, trivial⟩, rfl, by kernel_rfl, by kernel_rfl⟩
  rcases ht with rfl | ht
  · exact ⟨⟨rfl, _, Tryz.underlying73, rfl, rfl, by kernel_rfl⟩, rfl, by kernel_rfl, by kernel_rfl⟩
  rcases ht with rfl | ht
  · exact ⟨⟨_, Tryz.underlying106, rfl, rfl, rfl, rfl, rfl, rfl, trivial⟩, rfl, by kernel_rfl, by kernel_rfl⟩
  rcases ht with rfl | ht
  · exact ⟨Tryz.underlying118, rfl, by kernel_rfl, by kernel_rfl⟩
  rcases ht with rfl | ht
  · exact ⟨⟨_, Tryz.underlying167⟩, rfl, by kernel_rfl, by kernel_rfl⟩
  cases ht
def h_spec_l1Split : List (Nat × Hint) := [(122, .loop ⟨[0, 1], [(5, 0, (.lst true .str)), (6, 0, (.int .i64)), (7, 0, (.int .i64))]⟩ [(2, ⟨[0], [(5, 0, (.lst true .str)), (6, 0, (.int .i64))]⟩)]), (489, .join [(0, ⟨[0, 1, 7], [(5, 0, (.lst true .str)), (6, 0, (.int .i64))]⟩)])]
noncomputable def e_spec_l1Split : Ent := mkE tysC 92 [] h_spec_l1Split Tryz.f92 [(.vw, .str), (.vw, (.int .u8))] true (.lst true .str)
theorem ok_spec_l1Split : e_spec_l1Split.Ok Tryz.prog := mkE_ok envC ok_nil Tryz.func92 (by decide +kernel) (by kernel_rfl)
def h_spec_l1In : List (Nat × Hint) := [(3, .join [(0, ⟨[], [(6, 0, .bool)]⟩)])]
noncomputable def e_spec_l1In : Ent := mkE tysC 28 [] h_spec_l1In Tryz.f28 [(.vw, (.int .i64)), (.vw, (.int .i64)), (.vw, (.int .i64))] true .bool
theorem ok_spec_l1In : e_spec_l1In.Ok Tryz.prog := mkE_ok envC ok_nil Tryz.func28 (by decide +kernel) (by kernel_rfl)
def h_spec_l1Label : List (Nat × Hint) := [(58, .loop ⟨[0], [(3, 0, (.int .i64))]⟩ [(1, ⟨[2], []⟩), (2, ⟨[0], []⟩)]), (1865, .join [(0, ⟨[0, 3], [(38, 0, .bool)]⟩)])]
noncomputable def e_spec_l1Label : Ent := mkE tysC 93 [e_spec_l1In] h_spec_l1Label Tryz.f93 [(.vw, .str)] true .bool
theorem ok_spec_l1Label : e_spec_l1Label.Ok Tryz.prog := mkE_ok envC (ok_cons ok_spec_l1In ok_nil) Tryz.func93 (by decide +kernel) (by kernel_rfl)
def h_spec_l1Labels : List (Nat × Hint) := [(31, .join [(0, ⟨[], [(2, 0, (.lst true .str)), (3, 0, .bool)]⟩)]), (122, .loop ⟨[0, 4, 11, 12], [(13, 0, (.int .i64))]⟩ [(1, ⟨[2, 3], []⟩), (2, ⟨[0, 4], []⟩)])]
noncomputable def e_spec_l1Labels : Ent := mkE tysC 56 [e_spec_l1Split, e_spec_l1Label] h_spec_l1Labels Tryz.f56 [(.vw, .str)] false (.pair (.lst true .str) (.pair .bool .unit))
theorem ok_spec_l1Labels : e_spec_l1Labels.Ok Tryz.prog := mkE_ok envC (ok_cons ok_spec_l1Split (ok_cons ok_spec_l1Label ok_nil)) Tryz.func56 (by decide +kernel) (by kernel_rfl)
def h_spec_l6Apex : List (Nat × Hint) := [(58, .loop ⟨[3, 12, 13], [(4, 0, .bool), (14, 0, (.int .i64))]⟩ [(2, ⟨[], [(4, 0, .bool)]⟩)]), (467, .join [(0, ⟨[3, 12, 13, 14], [(4, 0, .bool)]⟩)])]
noncomputable def e_spec_l6Apex : Ent := mkE tysC 73 [e_spec_l1Labels] h_spec_l6Apex Tryz.f73 [(.vw, .str)] true .bool
theorem ok_spec_l6Apex : e_spec_l6Apex.Ok Tryz.prog := mkE_ok envC (ok_cons ok_spec_l1Labels ok_nil) Tryz.func73 (by decide +kernel) (by kernel_rfl)
def h_spec_NewZone : List (Nat × Hint) := []
noncomputable def e_spec_NewZone : Ent := mkE tysC 33 [e_spec_l6Apex] h_spec_NewZone Tryz.f33 [(.vw, .str)] false (.pair tyZt (.pair .bool .unit))
theorem ok_spec_NewZone : e_spec_NewZone.Ok Tryz.prog := mkE_ok envC (ok_cons ok_spec_l6Apex ok_nil) Tryz.func33 (by decide +kernel) (by kernel_rfl)
def h_spec_l11Delegates : List (Nat × Hint) := []
noncomputable def e_spec_l11Delegates : Ent := mkE tysC 35 [] h_spec_l11Delegates Tryz.f35 [(.vw, .str), (.vw, .str)] true (.lst true (.pair (.int .i64) (.pair tyR .unit)))
theorem ok_spec_l11Delegates : e_spec_l11Delegates.Ok Tryz.prog := mkE_ok envC ok_nil Tryz.func35 (by decide +kernel) (by kernel_rfl)
def h_spec_l1Int : List (Nat × Hint) := [(122, .loop ⟨[0], [(3, 0, (.int .i64)), (4, 0, (.int .i64))]⟩ [(1, ⟨[], [(2, 0, (.int .i64))]⟩), (2, ⟨[], [(3, 0, (.int .i64))]⟩)]), (3912, .join [(0, ⟨[0, 3, 4], [(34, 0, .bool)]⟩)]), (6, .join [(0, ⟨[0], [(18, 0, .bool)]⟩)])]
noncomputable def e_spec_l1Int : Ent := mkE tysC 140 [e_spec_l1In] h_spec_l1Int Tryz.f140 [(.vw, .str)] true (.int .i64)
theorem ok_spec_l1Int : e_spec_l1Int.Ok Tryz.prog := mkE_ok envC (ok_cons ok_spec_l1In ok_nil) Tryz.func140 (by decide +kernel) (by kernel_rfl)
def h_spec_l3Number : List (Nat × Hint) := [(58, .loop ⟨[], [(0, 0, (.int .i64)), (5, 0, (.lst true (.int .u8))), (6, 0, (.int .i64))]⟩ [(2, ⟨[], [(5, 0, (.lst true (.int .u8)))]⟩)])]
noncomputable def e_spec_l3Number : Ent := mkE tysC 141 [] h_spec_l3Number Tryz.f141 [(.vw, (.int .i64)), (.vw, (.int .i64))] true .str
theorem ok_spec_l3Number : e_spec_l3Number.Ok Tryz.prog := mkE_ok envC ok_nil Tryz.func141 (by decide +kernel) (by kernel_rfl)
def h_spec_l3Target : List (Nat × Hint) := [(15, .join [(0, ⟨[], [(2, 0, .bool)]⟩)]), (58, .loop ⟨[0, 3, 12, 13], [(4, 0, .bool), (14, 0, (.int .i64))]⟩ [(2, ⟨[0], [(4, 0, .bool)]⟩)]), (467, .join [(0, ⟨[0, 3, 12, 13, 14], [(4, 0, .bool)]⟩)])]
noncomputable def e_spec_l3Target : Ent := mkE tysC 142 [e_spec_l1Labels] h_spec_l3Target Tryz.f142 [(.vw, .str)] true .bool
theorem ok_spec_l3Target : e_spec_l3Target.Ok Tryz.prog := mkE_ok envC (ok_cons ok_spec_l1Labels ok_nil) Tryz.func142 (by decide +kernel) (by kernel_rfl)
def h_spec_l2Bytes : List (Nat × Hint) := [(122, .loop ⟨[3, 13, 14], [(5, 0, .str), (15, 0, (.int .i64))]⟩ [(2, ⟨[], [(5, 0, .str)]⟩)])]
noncomputable def e_spec_l2Bytes : Ent := mkE tysC 143 [e_spec_l1Labels] h_spec_l2Bytes Tryz.f143 [(.vw, .str)] true .str
theorem ok_spec_l2Bytes : e_spec_l2Bytes.Ok Tryz.prog := mkE_ok envC (ok_cons ok_spec_l1Labels ok_nil) Tryz.func143 (by decide +kernel) (by kernel_rfl)
def h_spec_l3Bytes : List (Nat × Hint) := [(221170, .loop ⟨[1], [(13, 0, (.int .i64))]⟩ [(1, ⟨[], [(4, 0, .str), (5, 0, .bool)]⟩), (5, ⟨[1], []⟩)]), (3538724, .join [(0, ⟨[1, 13], [(104, 0, .bool)]⟩)]), (27642, .join [(0, ⟨[12], [(76, 0, .bool)]⟩)]), (107, .join [(0, ⟨[1, 14], [(39, 0, .bool)]⟩)]), (3418, .loop ⟨[7, 19, 20], [(6, 0, .str), (21, 0, (.int .i64))]⟩ [(1, ⟨[4, 5], []⟩), (3, ⟨[7], [(6, 0, .str)]⟩)])]
noncomputable def e_spec_l3Bytes : Ent := mkE tysC 122 [e_spec_l1Split, e_spec_l1Int, e_spec_l1In, e_spec_l3Number, e_spec_l3Target, e_spec_l2Bytes] h_spec_l3Bytes Tryz.f122 [(.vw, (.int .i64)), (.vw, .str)] false (.pair .str (.pair .bool .unit))
theorem ok_spec_l3Bytes : e_spec_l3Bytes.Ok Tryz.prog := mkE_ok envC (ok_cons ok_spec_l1Split (ok_cons ok_spec_l1Int (ok_cons ok_spec_l1In (ok_cons ok_spec_l3Number (ok_cons ok_spec_l3Target (ok_cons ok_spec_l2Bytes ok_nil)))))) Tryz.func122 (by decide +kernel) (by kernel_rfl)
def h_spec_GoodName : List (Nat × Hint) := []
noncomputable def e_spec_GoodName : Ent := mkE tysC 21 [e_spec_l1Labels] h_spec_GoodName Tryz.f21 [(.vw, .str)] true .bool
theorem ok_spec_GoodName : e_spec_GoodName.Ok Tryz.prog := mkE_ok envC (ok_cons ok_spec_l1Labels ok_nil) Tryz.func21 (by decide +kernel) (by kernel_rfl)
def h_spec_GoodRecord : List (Nat × Hint) := [(7, .join [(0, ⟨[], [(2, 0, .bool)]⟩)])]
noncomputable def e_spec_GoodRecord : Ent := mkE tysC 102 [e_spec_l3Bytes, e_spec_GoodName, e_spec_l1In] h_spec_GoodRecord Tryz.f102 [(.vw, tyR)] true .bool
theorem ok_spec_GoodRecord : e_spec_GoodRecord.Ok Tryz.prog := mkE_ok envC (ok_cons ok_spec_l3Bytes (ok_cons ok_spec_GoodName (ok_cons ok_spec_l1In ok_nil))) Tryz.func102 (by decide +kernel) (by kernel_rfl)
def h_spec_l1Compare : List (Nat × Hint) := [(122, .loop ⟨[5, 7], [(9, 0, (.int .i64))]⟩ [(1, ⟨[], [(4, 0, (.int .i64))]⟩), (2, ⟨[5, 7], []⟩)]), (488, .join [(0, ⟨[5, 7, 9], [(31, 0, .bool)]⟩)])]
noncomputable def e_spec_l1Compare : Ent := mkE tysC 30 [e_spec_l1Labels] h_spec_l1Compare Tryz.f30 [(.vw, .str), (.vw, .str)] true (.int .i64)
theorem ok_spec_l1Compare : e_spec_l1Compare.Ok Tryz.prog := mkE_ok envC (ok_cons ok_spec_l1Labels ok_nil) Tryz.func30 (by decide +kernel) (by kernel_rfl)
def h_spec_l3Less : List (Nat × Hint) := []
noncomputable def e_spec_l3Less : Ent := mkE tysC 123 [] h_spec_l3Less Tryz.f123 [(.vw, .bool)] true (.int .i64)
theorem ok_spec_l3Less : e_spec_l3Less.Ok Tryz.prog := mkE_ok envC ok_nil Tryz.func123 (by decide +kernel) (by kernel_rfl)
def h_spec_l3Compare : List (Nat × Hint) := []
noncomputable def e_spec_l3Compare : Ent := mkE tysC 103 [e_spec_l1Compare, e_spec_l3Bytes, e_spec_l3Less] h_spec_l3Compare Tryz.f103 [(.vw, tyR), (.vw, tyR)] true (.int .i64)
theorem ok_spec_l3Compare : e_spec_l3Compare.Ok Tryz.prog := mkE_ok envC (ok_cons ok_spec_l1Compare (ok_cons ok_spec_l3Bytes (ok_cons ok_spec_l3Less ok_nil))) Tryz.func103 (by decide +kernel) (by kernel_rfl)
def h_spec_l6List : List (Nat × Hint) := [(26, .loop ⟨[0, 5, 6], [(7, 0, (.int .i64))]⟩ [(1, ⟨[2], []⟩), (2, ⟨[0], []⟩)]), (1689, .join [(0, ⟨[0, 5, 6, 7], [(28, 0, .bool)]⟩)])]
noncomputable def e_spec_l6List : Ent := mkE tysC 100 [e_spec_GoodRecord, e_spec_l3Compare] h_spec_l6List Tryz.f100 [(.vw, tyRf)] true .bool
theorem ok_spec_l6List : e_spec_l6List.Ok Tryz.prog := mkE_ok envC (ok_cons ok_spec_GoodRecord (ok_cons ok_spec_l3Compare ok_nil)) Tryz.func100 (by decide +kernel) (by kernel_rfl)
def h_spec_l1Below : List (Nat × Hint) := [(7, .join [(0, ⟨[], [(4, 0, .bool)]⟩)])]
noncomputable def e_spec_l1Below : Ent := mkE tysC 58 [] h_spec_l1Below Tryz.f58 [(.vw, .str), (.vw, .str)] true .bool
theorem ok_spec_l1Below : e_spec_l1Below.Ok Tryz.prog := mkE_ok envC ok_nil Tryz.func58 (by decide +kernel) (by kernel_rfl)
def h_spec_l6Has : List (Nat × Hint) := [(26, .loop ⟨[1, 2, 9, 10], [(11, 0, (.int .i64))]⟩ [(1, ⟨[], [(6, 0, .bool)]⟩), (2, ⟨[], []⟩)]), (1689, .join [(0, ⟨[1, 2, 9, 10, 11], [(24, 0, .bool)]⟩)])]
noncomputable def e_spec_l6Has : Ent := mkE tysC 76 [] h_spec_l6Has Tryz.f76 [(.vw, tyRf), (.vw, .str), (.vw, (.int .i64))] true .bool
theorem ok_spec_l6Has : e_spec_l6Has.Ok Tryz.prog := mkE_ok envC ok_nil Tryz.func76 (by decide +kernel) (by kernel_rfl)
def h_spec_l1Parent : List (Nat × Hint) := [(26, .loop ⟨[0], [(3, 0, (.int .i64))]⟩ [(1, ⟨[], [(2, 0, .str)]⟩), (2, ⟨[], []⟩)])]
noncomputable def e_spec_l1Parent : Ent := mkE tysC 94 [] h_spec_l1Parent Tryz.f94 [(.vw, .str)] true .str
theorem ok_spec_l1Parent : e_spec_l1Parent.Ok Tryz.prog := mkE_ok envC ok_nil Tryz.func94 (by decide +kernel) (by kernel_rfl)
def h_spec_l6Cut : List (Nat × Hint) := [(60, .loop ⟨[0, 1], [(2, 0, .str), (8, 0, .str), (9, 0, .bool)]⟩ [(2, ⟨[], [(8, 0, .str), (9, 0, .bool)]⟩)]), (482, .join [(0, ⟨[0, 1, 2], [(8, 0, .str), (9, 0, .bool)]⟩)]), (240, .join [(0, ⟨[0, 1, 2, 8, 9], [(17, 0, .bool)]⟩)])]
noncomputable def e_spec_l6Cut : Ent := mkE tysC 59 [e_spec_l1Below, e_spec_l6Has, e_spec_l1Parent] h_spec_l6Cut Tryz.f59 [(.vw, .str), (.vw, tyRf), (.vw, .str)] false (.pair .str (.pair .bool .unit))
theorem ok_spec_l6Cut : e_spec_l6Cut.Ok Tryz.prog := mkE_ok envC (ok_cons ok_spec_l1Below (ok_cons ok_spec_l6Has (ok_cons ok_spec_l1Parent ok_nil))) Tryz.func59 (by decide +kernel) (by kernel_rfl)
def h_spec_l6Rule : List (Nat × Hint) := [(2042, .loop ⟨[0, 1, 132, 133], [(134, 0, (.int .i64))]⟩ [(1, ⟨[], [(4, 0, (.int .i64))]⟩), (10, ⟨[], []⟩)]), (261427, .join [(0, ⟨[0, 1, 132, 133, 134], [(162, 0, .bool)]⟩)]), (506, .loop ⟨[0, 1, 97, 98], [(99, 0, (.int .i64))]⟩ [(1, ⟨[], [(4, 0, (.int .i64))]⟩), (6, ⟨[0, 1], []⟩)]), (129638, .loop ⟨[0, 1, 11, 97, 98, 99, 106, 107], [(108, 0, (.int .i64))]⟩ [(1, ⟨[], [(4, 0, (.int .i64))]⟩), (8, ⟨[0, 1, 97, 98, 99], []⟩)]), (8296857, .join [(0, ⟨[0, 1, 11, 97, 98, 99, 106, 107, 108], [(126, 0, .bool)]⟩)]), (250, .loop ⟨[0, 1, 43, 44], [(45, 0, (.int .i64))]⟩ [(1, ⟨[], [(4, 0, (.int .i64))]⟩), (4, ⟨[0, 1], []⟩)]), (16025, .join [(0, ⟨[0, 1, 43, 44, 45], [(95, 0, .bool)]⟩)]), (58, .loop ⟨[0, 1, 18, 19], [(5, 0, (.int .i64)), (20, 0, (.int .i64))]⟩ [(1, ⟨[], [(4, 0, (.int .i64))]⟩), (2, ⟨[0, 1], [(5, 0, (.int .i64))]⟩)]), (467, .join [(0, ⟨[0, 1, 18, 19, 20], [(5, 0, (.int .i64))]⟩), (1, ⟨[], [(4, 0, (.int .i64))]⟩)])]
noncomputable def e_spec_l6Rule : Ent := mkE tysC 79 [e_spec_l1Below, e_spec_l6Has, e_spec_l6Cut] h_spec_l6Rule Tryz.f79 [(.vw, .str), (.vw, tyRf)] true (.int .i64)
theorem ok_spec_l6Rule : e_spec_l6Rule.Ok Tryz.prog := mkE_ok envC (ok_cons ok_spec_l1Below (ok_cons ok_spec_l6Has (ok_cons ok_spec_l6Cut ok_nil))) Tryz.func79 (by decide +kernel) (by kernel_rfl)
def h_spec_RuleOf : List (Nat × Hint) := [(6, .join [(0, ⟨[0, 1], [(12, 0, .bool)]⟩)])]
noncomputable def e_spec_RuleOf : Ent := mkE tysC 70 [e_spec_l6Apex, e_spec_l6List, e_spec_l6Rule] h_spec_RuleOf Tryz.f70 [(.vw, .str), (.vw, tyRf)] true (.int .i64)
theorem ok_spec_RuleOf : e_spec_RuleOf.Ok Tryz.prog := mkE_ok envC (ok_cons ok_spec_l6Apex (ok_cons ok_spec_l6List (ok_cons ok_spec_l6Rule ok_nil))) Tryz.func70 (by decide +kernel) (by kernel_rfl)
def h_spec_l1Num : List (Nat × Hint) := []
noncomputable def z_spec_l1Num : Ent := ⟨101, [(.vw, (.int .i64))], true, .str, fun _ => none⟩
noncomputable def p_spec_l1Num : PE := (comp tysC [z_spec_l1Num] h_spec_l1Num Tryz.f101 [(.vw, (.int .i64))] true .str).getD .bot
noncomputable def f_rec_spec_l1Num : Nat → List D → Option D
  | 0 => fun _ => none
  | k + 1 => runPE [⟨101, [(.vw, (.int .i64))], true, .str, f_rec_spec_l1Num k⟩] p_spec_l1Num
noncomputable abbrev r_spec_l1Num (k : Nat) : Ent := ⟨101, [(.vw, (.int .i64))], true, .str, f_rec_spec_l1Num k⟩
theorem okr_spec_l1Num : ∀ k, (r_spec_l1Num k).Ok Tryz.prog
  | 0 => ⟨⟨Tryz.f101, Tryz.func101, by decide +kernel, by kernel_rfl⟩, fun _ _ _ h => by cases h⟩
  | k + 1 => Ent.ok_of (pe := p_spec_l1Num) (fn := Tryz.f101) (hs := h_spec_l1Num) envC (ok_cons (okr_spec_l1Num k) ok_nil) Tryz.func101 (by decide +kernel) (by kernel_rfl) rfl
noncomputable def e_spec_l1Num : Ent := r_spec_l1Num 40
theorem ok_spec_l1Num : e_spec_l1Num.Ok Tryz.prog := okr_spec_l1Num 40
def h_spec_l6Soa : List (Nat × Hint) := []
noncomputable def e_spec_l6Soa : Ent := mkE tysC 71 [e_spec_l1Num] h_spec_l6Soa Tryz.f71 [(.vw, tyZf)] true .str
theorem ok_spec_l6Soa : e_spec_l6Soa.Ok Tryz.prog := mkE_ok envC (ok_cons ok_spec_l1Num ok_nil) Tryz.func71 (by decide +kernel) (by kernel_rfl)
def h_spec_GoodZone : List (Nat × Hint) := [(58, .loop ⟨[1, 18, 19], [(20, 0, (.int .i64))]⟩ [(1, ⟨[], [(2, 0, .bool)]⟩), (2, ⟨[], []⟩)]), (3737, .join [(0, ⟨[1, 18, 19, 20], [(33, 0, .bool)]⟩)]), (6, .join [(0, ⟨[1], [(16, 0, .bool)]⟩)])]
noncomputable def e_spec_GoodZone : Ent := mkE tysC 29 [e_spec_l1In, e_spec_RuleOf, e_spec_l6Soa] h_spec_GoodZone Tryz.f29 [(.vw, tyZf)] true .bool
theorem ok_spec_GoodZone : e_spec_GoodZone.Ok Tryz.prog := mkE_ok envC (ok_cons ok_spec_l1In (ok_cons ok_spec_RuleOf (ok_cons ok_spec_l6Soa ok_nil))) Tryz.func29 (by decide +kernel) (by kernel_rfl)
def h_spec_l6Batch : List (Nat × Hint) := [(26, .loop ⟨[0, 5, 6], [(7, 0, (.int .i64))]⟩ [(1, ⟨[2], []⟩), (2, ⟨[0], []⟩)]), (1689, .join [(0, ⟨[0, 5, 6, 7], [(26, 0, .bool)]⟩)])]
noncomputable def e_spec_l6Batch : Ent := mkE tysC 74 [e_spec_l1In, e_spec_GoodRecord] h_spec_l6Batch Tryz.f74 [(.vw, (.lst false (.pair (.int .i64) (.pair tyR .unit))))] true .bool
theorem ok_spec_l6Batch : e_spec_l6Batch.Ok Tryz.prog := mkE_ok envC (ok_cons ok_spec_l1In (ok_cons ok_spec_GoodRecord ok_nil)) Tryz.func74 (by decide +kernel) (by kernel_rfl)
def h_spec_l6Own : List (Nat × Hint) := []
noncomputable def e_spec_l6Own : Ent := mkE tysC 75 [] h_spec_l6Own Tryz.f75 [(.vw, tyZf)] true tyZt
theorem ok_spec_l6Own : e_spec_l6Own.Ok Tryz.prog := mkE_ok envC ok_nil Tryz.func75 (by decide +kernel) (by kernel_rfl)
def h_spec_l6Drop : List (Nat × Hint) := [(58, .loop ⟨[3, 8, 9], [(5, 0, tyRt), (10, 0, (.int .i64))]⟩ [(2, ⟨[], [(5, 0, tyRt)]⟩)]), (467, .join [(0, ⟨[3, 8, 9, 10], [(5, 0, tyRt)]⟩)]), (3737, .join [(0, ⟨[3, 5, 7, 8, 9, 10], [(32, 0, .bool)]⟩)]), (0, .frz [4])]
noncomputable def e_spec_l6Drop : Ent := mkE tysC 77 [] h_spec_l6Drop Tryz.f77 [(.vw, tyRf), (.vw, tyR)] true tyRt
theorem ok_spec_l6Drop : e_spec_l6Drop.Ok Tryz.prog := mkE_ok envC ok_nil Tryz.func77 (by decide +kernel) (by kernel_rfl)
def h_spec_l3Put : List (Nat × Hint) := [(30, .join [(0, ⟨[0, 3, 5], [(33, 0, .bool)]⟩)]), (28, .loop ⟨[0, 3], [(5, 0, (.int .i64))]⟩ [(2, ⟨[0, 3], [(5, 0, (.int .i64))]⟩)]), (112, .join [(0, ⟨[0, 3, 5], [(19, 0, .bool)]⟩)]), (0, .frz [4])]
noncomputable def e_spec_l3Put : Ent := mkE tysC 78 [e_spec_l3Compare] h_spec_l3Put Tryz.f78 [(.own, tyRt), (.vw, tyR)] true tyRt
theorem ok_spec_l3Put : e_spec_l3Put.Ok Tryz.prog := mkE_ok envC (ok_cons ok_spec_l3Compare ok_nil) Tryz.func78 (by decide +kernel) (by kernel_rfl)
def h_spec_ApplyBatch : List (Nat × Hint) := [(8186, .loop ⟨[4, 9, 108, 109], [(12, 2, tyZt), (110, 0, (.int .i64))]⟩ [(7, ⟨[4], [(12, 2, tyZt)]⟩)]), (523929, .join [(0, ⟨[4, 9, 12, 108, 109, 110], [(14, 2, tyR)]⟩)]), (254, .join [(0, ⟨[2, 4, 9], [(92, 0, .bool)]⟩)]), (506, .loop ⟨[2, 4, 61, 62], [(9, 0, tyRt), (63, 0, (.int .i64))]⟩ [(4, ⟨[2, 4], [(9, 0, tyRt)]⟩)]), (4051, .join [(0, ⟨[2, 4, 61, 62, 63], [(9, 0, tyRt)]⟩)]), (122, .loop ⟨[1, 2, 4, 24, 25], [(26, 0, (.int .i64))]⟩ [(1, ⟨[], [(4, 2, tyZt), (5, 0, (.int .i64))]⟩), (2, ⟨[1, 2, 4], []⟩)]), (15667, .join [(0, ⟨[1, 2, 4, 24, 25, 26], [(53, 0, .bool)]⟩)])]
noncomputable def e_spec_ApplyBatch : Ent := mkE tysC 34 [e_spec_GoodZone, e_spec_l6Batch, e_spec_l6Own, e_spec_l6Has, e_spec_l6Drop, e_spec_l3Put, e_spec_l6Rule, e_spec_l6Soa] h_spec_ApplyBatch Tryz.f34 [(.vw, tyZf), (.vw, (.lst false (.pair (.int .i64) (.pair tyR .unit))))] false (.pair tyZt (.pair (.int .i64) .unit))
theorem ok_spec_ApplyBatch : e_spec_ApplyBatch.Ok Tryz.prog := mkE_ok envC (ok_cons ok_spec_GoodZone (ok_cons ok_spec_l6Batch (ok_cons ok_spec_l6Own (ok_cons ok_spec_l6Has (ok_cons ok_spec_l6Drop (ok_cons ok_spec_l3Put (ok_cons ok_spec_l6Rule (ok_cons ok_spec_l6Soa ok_nil)))))))) Tryz.func34 (by decide +kernel) (by kernel_rfl)
def h_spec_l1Cur_next : List (Nat × Hint) := [(7, .join [(0, ⟨[0], [(3, 0, (.int .i64))]⟩)])]
noncomputable def e_spec_l1Cur_next : Ent := mkE tysC 82 [] h_spec_l1Cur_next Tryz.f82 [(.iop, (.pair (.lst false (.int .u8)) (.pair (.int .i64) (.pair (.int .u64) .unit))))] true (.int .i64)
theorem ok_spec_l1Cur_next : e_spec_l1Cur_next.Ok Tryz.prog := mkE_ok envC ok_nil Tryz.func82 (by decide +kernel) (by kernel_rfl)
def h_spec_l1Cur_pick : List (Nat × Hint) := [(15, .join [(0, ⟨[1], [(0, 2, (.pair (.lst false (.int .u8)) (.pair (.int .i64) (.pair (.int .u64) .unit)))), (5, 0, (.int .i64))]⟩)])]
noncomputable def e_spec_l1Cur_pick : Ent := mkE tysC 41 [e_spec_l1Cur_next] h_spec_l1Cur_pick Tryz.f41 [(.iop, (.pair (.lst false (.int .u8)) (.pair (.int .i64) (.pair (.int .u64) .unit)))), (.vw, (.int .i64))] true (.int .i64)
theorem ok_spec_l1Cur_pick : e_spec_l1Cur_pick.Ok Tryz.prog := mkE_ok envC (ok_cons ok_spec_l1Cur_next ok_nil) Tryz.func41 (by decide +kernel) (by kernel_rfl)
def h_spec_l1Cur_one : List (Nat × Hint) := []
noncomputable def e_spec_l1Cur_one : Ent := mkE tysC 36 [e_spec_l1Cur_pick] h_spec_l1Cur_one Tryz.f36 [(.iop, (.pair (.lst false (.int .u8)) (.pair (.int .i64) (.pair (.int .u64) .unit)))), (.vw, (.int .i64))] true .bool
theorem ok_spec_l1Cur_one : e_spec_l1Cur_one.Ok Tryz.prog := mkE_ok envC (ok_cons ok_spec_l1Cur_pick ok_nil) Tryz.func36 (by decide +kernel) (by kernel_rfl)
def h_spec_GoodWorld : List (Nat × Hint) := [(58, .loop ⟨[1, 19, 20], [(21, 0, (.int .i64))]⟩ [(1, ⟨[], [(2, 0, .bool)]⟩), (2, ⟨[], []⟩)]), (3737, .join [(0, ⟨[1, 19, 20, 21], [(45, 0, .bool)]⟩)]), (6, .join [(0, ⟨[1], [(17, 0, .bool)]⟩)])]
noncomputable def e_spec_GoodWorld : Ent := mkE tysC 9 [e_spec_l1In, e_spec_GoodZone, e_spec_l1Compare] h_spec_GoodWorld Tryz.f9 [(.vw, (.pair (.lst false tyZf) .unit))] true .bool
theorem ok_spec_GoodWorld : e_spec_GoodWorld.Ok Tryz.prog := mkE_ok envC (ok_cons ok_spec_l1In (ok_cons ok_spec_GoodZone (ok_cons ok_spec_l1Compare ok_nil))) Tryz.func9 (by decide +kernel) (by kernel_rfl)
def h_spec_AddZone : List (Nat × Hint) := [(63, .join [(0, ⟨[4], [(6, 2, (.pair (.lst true tyZt) .unit))]⟩)]), (250, .loop ⟨[3, 4, 22, 23], [(6, 2, (.pair (.lst true tyZt) .unit)), (7, 0, .bool), (24, 0, (.int .i64))]⟩ [(1, ⟨[], [(4, 2, (.pair (.lst true tyZt) .unit)), (5, 0, .bool)]⟩), (2, ⟨[3, 4], [(6, 2, (.pair (.lst true tyZt) .unit)), (7, 0, .bool)]⟩)]), (16025, .join [(0, ⟨[3, 4, 9, 22, 23, 24], [(6, 2, (.pair (.lst true tyZt) .unit)), (7, 0, .bool)]⟩), (1, ⟨[], [(4, 2, (.pair (.lst true tyZt) .unit)), (5, 0, .bool)]⟩)]), (256407, .join [(0, ⟨[3, 4, 6, 7, 9, 22, 23, 24], [(41, 0, .bool)]⟩)]), (6, .join [(0, ⟨[2, 3, 4], [(18, 0, .bool)]⟩)])]
noncomputable def e_spec_AddZone : Ent := mkE tysC 37 [e_spec_GoodWorld, e_spec_GoodZone, e_spec_l1Compare, e_spec_l6Own] h_spec_AddZone Tryz.f37 [(.vw, (.pair (.lst false tyZf) .unit)), (.vw, tyZf)] false (.pair (.pair (.lst true tyZt) .unit) (.pair .bool .unit))
theorem ok_spec_AddZone : e_spec_AddZone.Ok Tryz.prog := mkE_ok envC (ok_cons ok_spec_GoodWorld (ok_cons ok_spec_GoodZone (ok_cons ok_spec_l1Compare (ok_cons ok_spec_l6Own ok_nil)))) Tryz.func37 (by decide +kernel) (by kernel_rfl)
def h_spec_l1Cur_of : List (Nat × Hint) := []
noncomputable def e_spec_l1Cur_of : Ent := mkE tysC 40 [e_spec_l1Cur_pick] h_spec_l1Cur_of Tryz.f40 [(.iop, (.pair (.lst false (.int .u8)) (.pair (.int .i64) (.pair (.int .u64) .unit)))), (.vw, (.lst false .str))] true .str
theorem ok_spec_l1Cur_of : e_spec_l1Cur_of.Ok Tryz.prog := mkE_ok envC (ok_cons ok_spec_l1Cur_pick ok_nil) Tryz.func40 (by decide +kernel) (by kernel_rfl)
def h_spec_l1Cur_among : List (Nat × Hint) := []
noncomputable def e_spec_l1Cur_among : Ent := mkE tysC 15 [e_spec_l1Cur_pick] h_spec_l1Cur_among Tryz.f15 [(.iop, (.pair (.lst false (.int .u8)) (.pair (.int .i64) (.pair (.int .u64) .unit)))), (.vw, (.lst false (.int .i64)))] true (.int .i64)
theorem ok_spec_l1Cur_among : e_spec_l1Cur_among.Ok Tryz.prog := mkE_ok envC (ok_cons ok_spec_l1Cur_pick ok_nil) Tryz.func15 (by decide +kernel) (by kernel_rfl)
def h_spec_l1Cur_name : List (Nat × Hint) := [(122, .loop ⟨[], [(0, 2, (.pair (.lst false (.int .u8)) (.pair (.int .i64) (.pair (.int .u64) .unit)))), (3, 0, .str), (4, 0, (.int .i64))]⟩ [(3, ⟨[], [(0, 2, (.pair (.lst false (.int .u8)) (.pair (.int .i64) (.pair (.int .u64) .unit)))), (3, 0, .str)]⟩)]), (0, .frz [10, 15, 18, 27])]
noncomputable def e_spec_l1Cur_name : Ent := mkE tysC 39 [e_spec_l1Cur_pick, e_spec_l1Cur_of] h_spec_l1Cur_name Tryz.f39 [(.iop, (.pair (.lst false (.int .u8)) (.pair (.int .i64) (.pair (.int .u64) .unit))))] true .str
theorem ok_spec_l1Cur_name : e_spec_l1Cur_name.Ok Tryz.prog := mkE_ok envC (ok_cons ok_spec_l1Cur_pick (ok_cons ok_spec_l1Cur_of ok_nil)) Tryz.func39 (by decide +kernel) (by kernel_rfl)
def h_spec_l1Cur_target : List (Nat × Hint) := [(0, .frz [4])]
noncomputable def e_spec_l1Cur_target : Ent := mkE tysC 124 [e_spec_l1Cur_of] h_spec_l1Cur_target Tryz.f124 [(.iop, (.pair (.lst false (.int .u8)) (.pair (.int .i64) (.pair (.int .u64) .unit))))] true .str
theorem ok_spec_l1Cur_target : e_spec_l1Cur_target.Ok Tryz.prog := mkE_ok envC (ok_cons ok_spec_l1Cur_of ok_nil) Tryz.func124 (by decide +kernel) (by kernel_rfl)
def h_spec_l1Cur_record : List (Nat × Hint) := [(15, .join [(0, ⟨[2], [(0, 2, (.pair (.lst false (.int .u8)) (.pair (.int .i64) (.pair (.int .u64) .unit)))), (3, 2, tyR)]⟩)]), (7, .join [(0, ⟨[2], [(0, 2, (.pair (.lst false (.int .u8)) (.pair (.int .i64) (.pair (.int .u64) .unit)))), (3, 2, tyR)]⟩)]), (235, .join [(0, ⟨[0, 2, 3, 14], [(25, 0, .bool)]⟩)]), (0, .frz [7, 10, 22, 16, 52, 58])]
noncomputable def e_spec_l1Cur_record : Ent := mkE tysC 104 [e_spec_l1Cur_name, e_spec_l1Cur_among, e_spec_l1Cur_of, e_spec_l1Cur_target, e_spec_l1Cur_pick, e_spec_l1Num] h_spec_l1Cur_record Tryz.f104 [(.iop, (.pair (.lst false (.int .u8)) (.pair (.int .i64) (.pair (.int .u64) .unit))))] true tyR
theorem ok_spec_l1Cur_record : e_spec_l1Cur_record.Ok Tryz.prog := mkE_ok envC (ok_cons ok_spec_l1Cur_name (ok_cons ok_spec_l1Cur_among (ok_cons ok_spec_l1Cur_of (ok_cons ok_spec_l1Cur_target (ok_cons ok_spec_l1Cur_pick (ok_cons ok_spec_l1Num ok_nil)))))) Tryz.func104 (by decide +kernel) (by kernel_rfl)
def h_spec_l1Cur_inZone : List (Nat × Hint) := [(127, .join [(0, ⟨[2], [(0, 2, (.pair (.lst false (.int .u8)) (.pair (.int .i64) (.pair (.int .u64) .unit)))), (3, 2, tyR)]⟩)]), (254, .join [(0, ⟨[2, 3], [(0, 2, (.pair (.lst false (.int .u8)) (.pair (.int .i64) (.pair (.int .u64) .unit)))), (35, 0, .bool)]⟩)]), (63, .join [(0, ⟨[2], [(0, 2, (.pair (.lst false (.int .u8)) (.pair (.int .i64) (.pair (.int .u64) .unit)))), (3, 2, tyR)]⟩)]), (126, .join [(0, ⟨[2, 3], [(0, 2, (.pair (.lst false (.int .u8)) (.pair (.int .i64) (.pair (.int .u64) .unit)))), (21, 0, .bool)]⟩)]), (0, .frz [10])]
noncomputable def e_spec_l1Cur_inZone : Ent := mkE tysC 81 [e_spec_l1Cur_record, e_spec_l1Cur_one, e_spec_l1Cur_of] h_spec_l1Cur_inZone Tryz.f81 [(.iop, (.pair (.lst false (.int .u8)) (.pair (.int .i64) (.pair (.int .u64) .unit))))] true tyR
theorem ok_spec_l1Cur_inZone : e_spec_l1Cur_inZone.Ok Tryz.prog := mkE_ok envC (ok_cons ok_spec_l1Cur_record (ok_cons ok_spec_l1Cur_one (ok_cons ok_spec_l1Cur_of ok_nil))) Tryz.func81 (by decide +kernel) (by kernel_rfl)
def h_spec_l1Cur_batch : List (Nat × Hint) := [(63, .join [(0, ⟨[], [(0, 2, (.pair (.lst false (.int .u8)) (.pair (.int .i64) (.pair (.int .u64) .unit)))), (3, 0, (.lst true (.pair (.int .i64) (.pair tyR .unit))))]⟩)]), (124, .loop ⟨[], [(0, 2, (.pair (.lst false (.int .u8)) (.pair (.int .i64) (.pair (.int .u64) .unit)))), (3, 0, (.lst true (.pair (.int .i64) (.pair tyR .unit)))), (4, 0, (.int .i64))]⟩ [(2, ⟨[], [(0, 2, (.pair (.lst false (.int .u8)) (.pair (.int .i64) (.pair (.int .u64) .unit)))), (3, 0, (.lst true (.pair (.int .i64) (.pair tyR .unit))))]⟩)]), (15, .join [(0, ⟨[3], [(0, 2, (.pair (.lst false (.int .u8)) (.pair (.int .i64) (.pair (.int .u64) .unit)))), (4, 0, (.int .i64))]⟩)]), (0, .frz [19, 2])]
noncomputable def e_spec_l1Cur_batch : Ent := mkE tysC 80 [e_spec_l1Cur_pick, e_spec_l1Cur_one, e_spec_l1Cur_among, e_spec_l1Cur_inZone] h_spec_l1Cur_batch Tryz.f80 [(.iop, (.pair (.lst false (.int .u8)) (.pair (.int .i64) (.pair (.int .u64) .unit))))] true (.lst true (.pair (.int .i64) (.pair tyR .unit)))
theorem ok_spec_l1Cur_batch : e_spec_l1Cur_batch.Ok Tryz.prog := mkE_ok envC (ok_cons ok_spec_l1Cur_pick (ok_cons ok_spec_l1Cur_one (ok_cons ok_spec_l1Cur_among (ok_cons ok_spec_l1Cur_inZone ok_nil)))) Tryz.func80 (by decide +kernel) (by kernel_rfl)
def h_spec_l1Cur_zone : List (Nat × Hint) := [(31, .join [(0, ⟨[2], [(0, 2, (.pair (.lst false (.int .u8)) (.pair (.int .i64) (.pair (.int .u64) .unit)))), (3, 2, tyZt)]⟩)]), (122, .loop ⟨[2], [(0, 2, (.pair (.lst false (.int .u8)) (.pair (.int .i64) (.pair (.int .u64) .unit)))), (3, 2, tyZt), (5, 0, (.int .i64))]⟩ [(2, ⟨[2], [(0, 2, (.pair (.lst false (.int .u8)) (.pair (.int .i64) (.pair (.int .u64) .unit)))), (3, 2, tyZt)]⟩)]), (489, .join [(0, ⟨[2, 5], [(0, 2, (.pair (.lst false (.int .u8)) (.pair (.int .i64) (.pair (.int .u64) .unit)))), (3, 2, tyZt)]⟩)]), (7, .join [(0, ⟨[2], [(0, 2, (.pair (.lst false (.int .u8)) (.pair (.int .i64) (.pair (.int .u64) .unit)))), (3, 2, tyZt)]⟩)]), (0, .frz [10])]
noncomputable def e_spec_l1Cur_zone : Ent := mkE tysC 38 [e_spec_l1Cur_of, e_spec_NewZone, e_spec_l1Cur_one, e_spec_l6Soa, e_spec_l1Cur_pick, e_spec_l1Cur_batch, e_spec_ApplyBatch, e_spec_l1Cur_inZone, e_spec_l1Cur_name] h_spec_l1Cur_zone Tryz.f38 [(.iop, (.pair (.lst false (.int .u8)) (.pair (.int .i64) (.pair (.int .u64) .unit))))] true tyZt
theorem ok_spec_l1Cur_zone : e_spec_l1Cur_zone.Ok Tryz.prog := mkE_ok envC (ok_cons ok_spec_l1Cur_of (ok_cons ok_spec_NewZone (ok_cons ok_spec_l1Cur_one (ok_cons ok_spec_l6Soa (ok_cons ok_spec_l1Cur_pick (ok_cons ok_spec_l1Cur_batch (ok_cons ok_spec_ApplyBatch (ok_cons ok_spec_l1Cur_inZone (ok_cons ok_spec_l1Cur_name ok_nil))))))))) Tryz.func38 (by decide +kernel) (by kernel_rfl)
def h_spec_l1Cur_world : List (Nat × Hint) := [(4095, .join [(0, ⟨[2], [(0, 2, (.pair (.lst false (.int .u8)) (.pair (.int .i64) (.pair (.int .u64) .unit)))), (7, 2, (.pair (.lst true tyZt) .unit))]⟩)]), (2047, .join [(0, ⟨[2], [(0, 2, (.pair (.lst false (.int .u8)) (.pair (.int .i64) (.pair (.int .u64) .unit)))), (7, 2, (.pair (.lst true tyZt) .unit))]⟩)]), (8189, .join [(0, ⟨[2, 7, 19], [(0, 2, (.pair (.lst false (.int .u8)) (.pair (.int .i64) (.pair (.int .u64) .unit)))), (97, 0, .bool)]⟩)]), (511, .join [(0, ⟨[0, 2], [(7, 2, (.pair (.lst true tyZt) .unit))]⟩)]), (127, .join [(0, ⟨[2], [(0, 2, (.pair (.lst false (.int .u8)) (.pair (.int .i64) (.pair (.int .u64) .unit)))), (7, 2, (.pair (.lst true tyZt) .unit))]⟩)]), (509, .join [(0, ⟨[2, 7, 12], [(0, 2, (.pair (.lst false (.int .u8)) (.pair (.int .i64) (.pair (.int .u64) .unit)))), (71, 0, .bool)]⟩)]), (63, .join [(0, ⟨[2, 7], [(0, 2, (.pair (.lst false (.int .u8)) (.pair (.int .i64) (.pair (.int .u64) .unit)))), (8, 2, tyZt)]⟩)]), (253, .join [(0, ⟨[2, 7, 8, 10], [(0, 2, (.pair (.lst false (.int .u8)) (.pair (.int .i64) (.pair (.int .u64) .unit)))), (58, 0, .bool)]⟩)]), (7, .join [(0, ⟨[2], [(0, 2, (.pair (.lst false (.int .u8)) (.pair (.int .i64) (.pair (.int .u64) .unit)))), (3, 2, tyZt)]⟩)]), (29, .join [(0, ⟨[2, 3, 5], [(0, 2, (.pair (.lst false (.int .u8)) (.pair (.int .i64) (.pair (.int .u64) .unit)))), (37, 0, .bool)]⟩)])]
noncomputable def e_spec_l1Cur_world : Ent := mkE tysC 13 [e_spec_NewZone, e_spec_l11Delegates, e_spec_ApplyBatch, e_spec_l1Cur_one, e_spec_AddZone, e_spec_l1Cur_zone] h_spec_l1Cur_world Tryz.f13 [(.iop, (.pair (.lst false (.int .u8)) (.pair (.int .i64) (.pair (.int .u64) .unit))))] true (.pair (.lst true tyZt) .unit)
theorem ok_spec_l1Cur_world : e_spec_l1Cur_world.Ok Tryz.prog := mkE_ok envC (ok_cons ok_spec_NewZone (ok_cons ok_spec_l11Delegates (ok_cons ok_spec_ApplyBatch (ok_cons ok_spec_l1Cur_one (ok_cons ok_spec_AddZone (ok_cons ok_spec_l1Cur_zone ok_nil)))))) Tryz.func13 (by decide +kernel) (by kernel_rfl)
def h_spec_l1Cur_asked : List (Nat × Hint) := [(0, .frz [8])]
noncomputable def e_spec_l1Cur_asked : Ent := mkE tysC 14 [e_spec_l1Cur_one, e_spec_l1Cur_name, e_spec_l1Cur_of] h_spec_l1Cur_asked Tryz.f14 [(.iop, (.pair (.lst false (.int .u8)) (.pair (.int .i64) (.pair (.int .u64) .unit))))] true .str
theorem ok_spec_l1Cur_asked : e_spec_l1Cur_asked.Ok Tryz.prog := mkE_ok envC (ok_cons ok_spec_l1Cur_one (ok_cons ok_spec_l1Cur_name (ok_cons ok_spec_l1Cur_of ok_nil))) Tryz.func14 (by decide +kernel) (by kernel_rfl)
def h_spec_DrawResolve : List (Nat × Hint) := [(0, .frz [14])]
noncomputable def e_spec_DrawResolve : Ent := mkE tysC 4 [e_spec_l1Cur_world, e_spec_l1Cur_asked, e_spec_l1Cur_among] h_spec_DrawResolve Tryz.f4 [(.vw, (.lst false (.int .u8)))] false (.pair (.pair (.lst true tyZt) .unit) (.pair .str (.pair (.int .i64) .unit)))
theorem ok_spec_DrawResolve : e_spec_DrawResolve.Ok Tryz.prog := mkE_ok envC (ok_cons ok_spec_l1Cur_world (ok_cons ok_spec_l1Cur_asked (ok_cons ok_spec_l1Cur_among ok_nil))) Tryz.func4 (by decide +kernel) (by kernel_rfl)
def h_impl_within : List (Nat × Hint) := [(3, .join [(0, ⟨[], [(6, 0, .bool)]⟩)])]
noncomputable def e_impl_within : Ent := mkE tysC 25 [] h_impl_within Tryz.f25 [(.vw, (.int .i64)), (.vw, (.int .i64)), (.vw, (.int .i64))] true .bool
theorem ok_impl_within : e_impl_within.Ok Tryz.prog := mkE_ok envC ok_nil Tryz.func25 (by decide +kernel) (by kernel_rfl)
def h_impl_isCounter : List (Nat × Hint) := []
noncomputable def e_impl_isCounter : Ent := mkE tysC 65 [e_impl_within] h_impl_isCounter Tryz.f65 [(.vw, (.int .i64))] true .bool
theorem ok_impl_isCounter : e_impl_isCounter.Ok Tryz.prog := mkE_ok envC (ok_cons ok_impl_within ok_nil) Tryz.func65 (by decide +kernel) (by kernel_rfl)
noncomputable abbrev e_strings_Split : Ent := splitE 83
theorem ok_strings_Split : e_strings_Split.Ok Tryz.prog := splitE_ok Tryz.l146 (by kernel_rfl) Tryz.func83 (by decide +kernel) rfl glbMaxLen
def h_impl_labelsOf : List (Nat × Hint) := []
noncomputable def e_impl_labelsOf : Ent := mkE tysC 42 [e_strings_Split] h_impl_labelsOf Tryz.f42 [(.vw, .str)] true (.lst true .str)
theorem ok_impl_labelsOf : e_impl_labelsOf.Ok Tryz.prog := mkE_ok envC (ok_cons ok_strings_Split ok_nil) Tryz.func42 (by decide +kernel) (by kernel_rfl)
noncomputable abbrev e_strings_Trim : Ent := trimE 85
theorem ok_strings_Trim : e_strings_Trim.Ok Tryz.prog := trimE_ok Tryz.l160 (by kernel_rfl) (by kernel_rfl) Tryz.func85 (by decide +kernel) rfl
def h_impl_isLabel : List (Nat × Hint) := [(7, .join [(0, ⟨[], [(2, 0, .bool)]⟩)])]
noncomputable def e_impl_isLabel : Ent := mkE tysC 45 [e_impl_within, e_strings_Trim] h_impl_isLabel Tryz.f45 [(.vw, .str)] true .bool
theorem ok_impl_isLabel : e_impl_isLabel.Ok Tryz.prog := mkE_ok envC (ok_cons ok_impl_within (ok_cons ok_strings_Trim ok_nil)) Tryz.func45 (by decide +kernel) (by kernel_rfl)
def h_impl_GoodName_1 : List (Nat × Hint) := []
noncomputable def e_impl_GoodName_1 : Ent := mkE tysC 44 [e_impl_isLabel] h_impl_GoodName_1 Tryz.f44 [(.vw, .str)] true .bool
theorem ok_impl_GoodName_1 : e_impl_GoodName_1.Ok Tryz.prog := mkE_ok envC (ok_cons ok_impl_isLabel ok_nil) Tryz.func44 (by decide +kernel) (by kernel_rfl)
def h_slices_IndexFunc_string_string__impl_GoodName_1 : List (Nat × Hint) := [(26, .loop ⟨[0, 1, 7], [(8, 0, (.int .i64))]⟩ [(1, ⟨[], [(4, 0, (.int .i64))]⟩), (2, ⟨[], []⟩)])]
noncomputable def e_slices_IndexFunc_string_string__impl_GoodName_1 : Ent := mkE tysC 84 [e_impl_GoodName_1] h_slices_IndexFunc_string_string__impl_GoodName_1 Tryz.f84 [(.vw, (.lst false .str)), (.vw, (.fn 44 .unit))] true (.int .i64)
theorem ok_slices_IndexFunc_string_string__impl_GoodName_1 : e_slices_IndexFunc_string_string__impl_GoodName_1.Ok Tryz.prog := mkE_ok envC (ok_cons ok_impl_GoodName_1 ok_nil) Tryz.func84 (by decide +kernel) (by kernel_rfl)
def h_slices_ContainsFunc_string_string__impl_GoodName_1 : List (Nat × Hint) := []
noncomputable def e_slices_ContainsFunc_string_string__impl_GoodName_1 : Ent := mkE tysC 43 [e_slices_IndexFunc_string_string__impl_GoodName_1] h_slices_ContainsFunc_string_string__impl_GoodName_1 Tryz.f43 [(.vw, (.lst false .str)), (.vw, (.fn 44 .unit))] true .bool
theorem ok_slices_ContainsFunc_string_string__impl_GoodName_1 : e_slices_ContainsFunc_string_string__impl_GoodName_1.Ok Tryz.prog := mkE_ok envC (ok_cons ok_slices_IndexFunc_string_string__impl_GoodName_1 ok_nil) Tryz.func43 (by decide +kernel) (by kernel_rfl)
def h_impl_GoodName : List (Nat × Hint) := [(15, .join [(0, ⟨[], [(2, 0, .bool)]⟩)])]
noncomputable def e_impl_GoodName : Ent := mkE tysC 16 [e_impl_labelsOf, e_slices_ContainsFunc_string_string__impl_GoodName_1] h_impl_GoodName Tryz.f16 [(.vw, .str)] true .bool
theorem ok_impl_GoodName : e_impl_GoodName.Ok Tryz.prog := mkE_ok envC (ok_cons ok_impl_labelsOf (ok_cons ok_slices_ContainsFunc_string_string__impl_GoodName_1 ok_nil)) Tryz.func16 (by decide +kernel) (by kernel_rfl)
noncomputable abbrev e_strings_Contains : Ent := containsE 136
theorem ok_strings_Contains : e_strings_Contains.Ok Tryz.prog := containsE_ok Tryz.l144 (by kernel_rfl) Tryz.func136 (by decide +kernel) rfl glbMaxLen
def h_impl_isApex : List (Nat × Hint) := [(3, .join [(0, ⟨[], [(2, 0, .bool)]⟩)])]
noncomputable def e_impl_isApex : Ent := mkE tysC 116 [e_impl_GoodName, e_strings_Contains] h_impl_isApex Tryz.f116 [(.vw, .str)] true .bool
theorem ok_impl_isApex : e_impl_isApex.Ok Tryz.prog := mkE_ok envC (ok_cons ok_impl_GoodName (ok_cons ok_strings_Contains ok_nil)) Tryz.func116 (by decide +kernel) (by kernel_rfl)
noncomputable abbrev e_strconv_Atoi : Ent := atoiE 176
theorem ok_strconv_Atoi : e_strconv_Atoi.Ok Tryz.prog := atoiE_ok Tryz.l172 (by kernel_rfl) Tryz.func176 (by decide +kernel) rfl glbSyn glbRng
noncomputable abbrev e_strconv_Itoa : Ent := itoaE 98
theorem ok_strconv_Itoa : e_strconv_Itoa.Ok Tryz.prog := itoaE_ok Tryz.l171 (by kernel_rfl) Tryz.func98 (by decide +kernel) rfl (by kernel_rfl) glbPow
def h_impl_numberIn : List (Nat × Hint) := [(7, .join [(0, ⟨[], [(4, 0, (.int .i64)), (5, 0, .bool)]⟩)])]
noncomputable def e_impl_numberIn : Ent := mkE tysC 163 [e_strconv_Atoi, e_impl_within, e_strconv_Itoa] h_impl_numberIn Tryz.f163 [(.vw, .str), (.vw, (.int .i64))] false (.pair (.int .i64) (.pair .bool .unit))
theorem ok_impl_numberIn : e_impl_numberIn.Ok Tryz.prog := mkE_ok envC (ok_cons ok_strconv_Atoi (ok_cons ok_impl_within (ok_cons ok_strconv_Itoa ok_nil))) Tryz.func163 (by decide +kernel) (by kernel_rfl)
def h_impl_big : List (Nat × Hint) := [(58, .loop ⟨[0], [(5, 0, (.lst true (.int .u8))), (6, 0, (.int .i64))]⟩ [(2, ⟨[], [(5, 0, (.lst true (.int .u8)))]⟩)])]
noncomputable def e_impl_big : Ent := mkE tysC 164 [] h_impl_big Tryz.f164 [(.vw, (.int .i64)), (.vw, (.int .i64))] true .str
theorem ok_impl_big : e_impl_big.Ok Tryz.prog := mkE_ok envC ok_nil Tryz.func164 (by decide +kernel) (by kernel_rfl)
def h_impl_isTarget : List (Nat × Hint) := [(3, .join [(0, ⟨[], [(2, 0, .bool)]⟩)])]
noncomputable def e_impl_isTarget : Ent := mkE tysC 165 [e_impl_GoodName, e_strings_Contains] h_impl_isTarget Tryz.f165 [(.vw, .str)] true .bool
theorem ok_impl_isTarget : e_impl_isTarget.Ok Tryz.prog := mkE_ok envC (ok_cons ok_impl_GoodName (ok_cons ok_strings_Contains ok_nil)) Tryz.func165 (by decide +kernel) (by kernel_rfl)
def h_impl_labelBytes : List (Nat × Hint) := [(58, .loop ⟨[7, 8], [(3, 0, .str), (9, 0, (.int .i64))]⟩ [(2, ⟨[], [(3, 0, .str)]⟩)])]
noncomputable def e_impl_labelBytes : Ent := mkE tysC 166 [e_impl_labelsOf] h_impl_labelBytes Tryz.f166 [(.vw, .str)] true .str
theorem ok_impl_labelBytes : e_impl_labelBytes.Ok Tryz.prog := mkE_ok envC (ok_cons ok_impl_labelsOf ok_nil) Tryz.func166 (by decide +kernel) (by kernel_rfl)
noncomputable abbrev e_strings_Cut : Ent := cutE 55
theorem ok_strings_Cut : e_strings_Cut.Ok Tryz.prog := cutE_ok Tryz.l145 (by kernel_rfl) Tryz.func55 (by decide +kernel) rfl glbMaxLen
def h_impl_DataBytes_1 : List (Nat × Hint) := [(3, .join [(0, ⟨[], [(2, 0, .bool)]⟩)])]
noncomputable def e_impl_DataBytes_1 : Ent := mkE tysC 168 [] h_impl_DataBytes_1 Tryz.f168 [(.vw, (.int .u8))] true .bool
theorem ok_impl_DataBytes_1 : e_impl_DataBytes_1.Ok Tryz.prog := mkE_ok envC ok_nil Tryz.func168 (by decide +kernel) (by kernel_rfl)
def h_slices_IndexFunc_byte_byte__impl_DataBytes_1 : List (Nat × Hint) := [(26, .loop ⟨[0, 1, 7], [(8, 0, (.int .i64))]⟩ [(1, ⟨[], [(4, 0, (.int .i64))]⟩), (2, ⟨[], []⟩)])]
noncomputable def e_slices_IndexFunc_byte_byte__impl_DataBytes_1 : Ent := mkE tysC 177 [e_impl_DataBytes_1] h_slices_IndexFunc_byte_byte__impl_DataBytes_1 Tryz.f177 [(.vw, (.lst false (.int .u8))), (.vw, (.fn 168 .unit))] true (.int .i64)
theorem ok_slices_IndexFunc_byte_byte__impl_DataBytes_1 : e_slices_IndexFunc_byte_byte__impl_DataBytes_1.Ok Tryz.prog := mkE_ok envC (ok_cons ok_impl_DataBytes_1 ok_nil) Tryz.func177 (by decide +kernel) (by kernel_rfl)
def h_slices_ContainsFunc_byte_byte__impl_DataBytes_1 : List (Nat × Hint) := []
noncomputable def e_slices_ContainsFunc_byte_byte__impl_DataBytes_1 : Ent := mkE tysC 167 [e_slices_IndexFunc_byte_byte__impl_DataBytes_1] h_slices_ContainsFunc_byte_byte__impl_DataBytes_1 Tryz.f167 [(.vw, (.lst false (.int .u8))), (.vw, (.fn 168 .unit))] true .bool
theorem ok_slices_ContainsFunc_byte_byte__impl_DataBytes_1 : e_slices_ContainsFunc_byte_byte__impl_DataBytes_1.Ok Tryz.prog := mkE_ok envC (ok_cons ok_slices_IndexFunc_byte_byte__impl_DataBytes_1 ok_nil) Tryz.func167 (by decide +kernel) (by kernel_rfl)
def h_impl_DataBytes : List (Nat × Hint) := [(55292, .join [(0, ⟨[1], [(103, 0, .bool)]⟩)]), (55286, .join [(0, ⟨[15, 17], [(87, 0, .bool)]⟩)]), (107, .join [(0, ⟨[1, 19], [(48, 0, .bool)]⟩)]), (3418, .loop ⟨[7, 24, 25], [(6, 0, .str), (26, 0, (.int .i64))]⟩ [(1, ⟨[4, 5], []⟩), (3, ⟨[], [(6, 0, .str)]⟩)]), (875110, .join [(0, ⟨[6, 7, 10, 24, 25, 26], [(41, 0, .bool)]⟩)])]
noncomputable def e_impl_DataBytes : Ent := mkE tysC 151 [e_strings_Split, e_impl_numberIn, e_impl_big, e_impl_isTarget, e_impl_labelBytes, e_strings_Cut, e_slices_ContainsFunc_byte_byte__impl_DataBytes_1] h_impl_DataBytes Tryz.f151 [(.vw, (.int .i64)), (.vw, .str)] false (.pair .str (.pair .bool .unit))
theorem ok_impl_DataBytes : e_impl_DataBytes.Ok Tryz.prog := mkE_ok envC (ok_cons ok_strings_Split (ok_cons ok_impl_numberIn (ok_cons ok_impl_big (ok_cons ok_impl_isTarget (ok_cons ok_impl_labelBytes (ok_cons ok_strings_Cut (ok_cons ok_slices_ContainsFunc_byte_byte__impl_DataBytes_1 ok_nil))))))) Tryz.func151 (by decide +kernel) (by kernel_rfl)
def h_impl_GoodRecord : List (Nat × Hint) := [(6, .join [(0, ⟨[1], [(20, 0, .bool)]⟩)])]
noncomputable def e_impl_GoodRecord : Ent := mkE tysC 137 [e_impl_GoodName, e_impl_within, e_impl_DataBytes] h_impl_GoodRecord Tryz.f137 [(.vw, tyR)] true .bool
theorem ok_impl_GoodRecord : e_impl_GoodRecord.Ok Tryz.prog := mkE_ok envC (ok_cons ok_impl_GoodName (ok_cons ok_impl_within (ok_cons ok_impl_DataBytes ok_nil))) Tryz.func137 (by decide +kernel) (by kernel_rfl)
def h_slices_Reverse_string_string : List (Nat × Hint) := [(6, .loop ⟨[], [(0, 0, (.lst true .str)), (2, 0, (.int .i64)), (3, 0, (.int .i64))]⟩ [(2, ⟨[], [(0, 0, (.lst true .str))]⟩)])]
noncomputable def e_slices_Reverse_string_string : Ent := mkE tysC 68 [] h_slices_Reverse_string_string Tryz.f68 [(.io, (.lst true .str))] false .unit
theorem ok_slices_Reverse_string_string : e_slices_Reverse_string_string.Ok Tryz.prog := mkE_ok envC ok_nil Tryz.func68 (by decide +kernel) (by kernel_rfl)
def h_cmp_isNaN_string : List (Nat × Hint) := []
noncomputable def e_cmp_isNaN_string : Ent := mkE tysC 121 [] h_cmp_isNaN_string Tryz.f121 [(.vw, .str)] true .bool
theorem ok_cmp_isNaN_string : e_cmp_isNaN_string.Ok Tryz.prog := mkE_ok envC ok_nil Tryz.func121 (by decide +kernel) (by kernel_rfl)
def h_cmp_Compare_string : List (Nat × Hint) := []
noncomputable def e_cmp_Compare_string : Ent := mkE tysC 99 [e_cmp_isNaN_string] h_cmp_Compare_string Tryz.f99 [(.vw, .str), (.vw, .str)] true (.int .i64)
theorem ok_cmp_Compare_string : e_cmp_Compare_string.Ok Tryz.prog := mkE_ok envC (ok_cons ok_cmp_isNaN_string ok_nil) Tryz.func99 (by decide +kernel) (by kernel_rfl)
def h_slices_Compare_string_string : List (Nat × Hint) := [(26, .loop ⟨[0, 1, 9, 10], [(11, 0, (.int .i64))]⟩ [(1, ⟨[], [(4, 0, (.int .i64))]⟩), (2, ⟨[0, 1], []⟩)])]
noncomputable def e_slices_Compare_string_string : Ent := mkE tysC 69 [e_cmp_Compare_string] h_slices_Compare_string_string Tryz.f69 [(.vw, (.lst false .str)), (.vw, (.lst false .str))] true (.int .i64)
theorem ok_slices_Compare_string_string : e_slices_Compare_string_string.Ok Tryz.prog := mkE_ok envC (ok_cons ok_cmp_Compare_string ok_nil) Tryz.func69 (by decide +kernel) (by kernel_rfl)
def h_impl_compareNames : List (Nat × Hint) := []
noncomputable def e_impl_compareNames : Ent := mkE tysC 27 [e_impl_labelsOf, e_slices_Reverse_string_string, e_slices_Compare_string_string] h_impl_compareNames Tryz.f27 [(.vw, .str), (.vw, .str)] true (.int .i64)
theorem ok_impl_compareNames : e_impl_compareNames.Ok Tryz.prog := mkE_ok envC (ok_cons ok_impl_labelsOf (ok_cons ok_slices_Reverse_string_string (ok_cons ok_slices_Compare_string_string ok_nil))) Tryz.func27 (by decide +kernel) (by kernel_rfl)
def h_cmp_isNaN_int : List (Nat × Hint) := []
noncomputable def e_cmp_isNaN_int : Ent := mkE tysC 170 [] h_cmp_isNaN_int Tryz.f170 [(.vw, (.int .i64))] true .bool
theorem ok_cmp_isNaN_int : e_cmp_isNaN_int.Ok Tryz.prog := mkE_ok envC ok_nil Tryz.func170 (by decide +kernel) (by kernel_rfl)
def h_cmp_Compare_int : List (Nat × Hint) := []
noncomputable def e_cmp_Compare_int : Ent := mkE tysC 156 [e_cmp_isNaN_int] h_cmp_Compare_int Tryz.f156 [(.vw, (.int .i64)), (.vw, (.int .i64))] true (.int .i64)
theorem ok_cmp_Compare_int : e_cmp_Compare_int.Ok Tryz.prog := mkE_ok envC (ok_cons ok_cmp_isNaN_int ok_nil) Tryz.func156 (by decide +kernel) (by kernel_rfl)
def h_cmp_Or_int : List (Nat × Hint) := [(58, .loop ⟨[3, 6, 7], [(8, 0, (.int .i64))]⟩ [(1, ⟨[], [(2, 0, (.int .i64))]⟩), (2, ⟨[3], []⟩)])]
noncomputable def e_cmp_Or_int : Ent := mkE tysC 152 [] h_cmp_Or_int Tryz.f152 [(.vw, (.lst false (.int .i64)))] true (.int .i64)
theorem ok_cmp_Or_int : e_cmp_Or_int.Ok Tryz.prog := mkE_ok envC ok_nil Tryz.func152 (by decide +kernel) (by kernel_rfl)
def h_impl_compareKeys : List (Nat × Hint) := []
noncomputable def e_impl_compareKeys : Ent := mkE tysC 153 [e_impl_compareNames, e_cmp_Compare_int, e_cmp_Or_int] h_impl_compareKeys Tryz.f153 [(.vw, tyR), (.vw, tyR)] true (.int .i64)
theorem ok_impl_compareKeys : e_impl_compareKeys.Ok Tryz.prog := mkE_ok envC (ok_cons ok_impl_compareNames (ok_cons ok_cmp_Compare_int (ok_cons ok_cmp_Or_int ok_nil))) Tryz.func153 (by decide +kernel) (by kernel_rfl)
def h_impl_dataBytes : List (Nat × Hint) := []
noncomputable def e_impl_dataBytes : Ent := mkE tysC 155 [e_impl_DataBytes] h_impl_dataBytes Tryz.f155 [(.vw, (.int .i64)), (.vw, .str)] true .str
theorem ok_impl_dataBytes : e_impl_dataBytes.Ok Tryz.prog := mkE_ok envC (ok_cons ok_impl_DataBytes ok_nil) Tryz.func155 (by decide +kernel) (by kernel_rfl)
noncomputable abbrev e_strings_Compare : Ent := compareE 154
theorem ok_strings_Compare : e_strings_Compare.Ok Tryz.prog := compareE_ok Tryz.l106 (by kernel_rfl) Tryz.func154 (by decide +kernel) rfl
def h_impl_compareRecords : List (Nat × Hint) := []
noncomputable def e_impl_compareRecords : Ent := mkE tysC 138 [e_impl_compareKeys, e_impl_dataBytes, e_strings_Compare, e_cmp_Compare_int, e_cmp_Or_int] h_impl_compareRecords Tryz.f138 [(.vw, tyR), (.vw, tyR)] true (.int .i64)
theorem ok_impl_compareRecords : e_impl_compareRecords.Ok Tryz.prog := mkE_ok envC (ok_cons ok_impl_compareKeys (ok_cons ok_impl_dataBytes (ok_cons ok_strings_Compare (ok_cons ok_cmp_Compare_int (ok_cons ok_cmp_Or_int ok_nil))))) Tryz.func138 (by decide +kernel) (by kernel_rfl)
def h_impl_areRising : List (Nat × Hint) := [(26, .loop ⟨[0, 5, 6], [(7, 0, (.int .i64))]⟩ [(1, ⟨[2], []⟩), (2, ⟨[], []⟩)]), (1689, .join [(0, ⟨[0, 5, 6, 7], [(28, 0, .bool)]⟩)])]
noncomputable def e_impl_areRising : Ent := mkE tysC 117 [e_impl_GoodRecord, e_impl_compareRecords] h_impl_areRising Tryz.f117 [(.vw, tyRf)] true .bool
theorem ok_impl_areRising : e_impl_areRising.Ok Tryz.prog := mkE_ok envC (ok_cons ok_impl_GoodRecord (ok_cons ok_impl_compareRecords ok_nil)) Tryz.func117 (by decide +kernel) (by kernel_rfl)
def h_impl_isWhole : List (Nat × Hint) := [(3, .join [(0, ⟨[], [(4, 0, .bool)]⟩)])]
noncomputable def e_impl_isWhole : Ent := mkE tysC 95 [e_impl_isApex, e_impl_areRising] h_impl_isWhole Tryz.f95 [(.vw, .str), (.vw, tyRf)] true .bool
theorem ok_impl_isWhole : e_impl_isWhole.Ok Tryz.prog := mkE_ok envC (ok_cons ok_impl_isApex (ok_cons ok_impl_areRising ok_nil)) Tryz.func95 (by decide +kernel) (by kernel_rfl)
def h_internal_stringslite_HasSuffix : List (Nat × Hint) := [(3, .join [(0, ⟨[], [(4, 0, .bool)]⟩)])]
noncomputable def e_internal_stringslite_HasSuffix : Ent := mkE tysC 113 [] h_internal_stringslite_HasSuffix Tryz.f113 [(.vw, .str), (.vw, .str)] true .bool
theorem ok_internal_stringslite_HasSuffix : e_internal_stringslite_HasSuffix.Ok Tryz.prog := mkE_ok envC ok_nil Tryz.func113 (by decide +kernel) (by kernel_rfl)
def h_strings_HasSuffix : List (Nat × Hint) := []
noncomputable def e_strings_HasSuffix : Ent := mkE tysC 87 [e_internal_stringslite_HasSuffix] h_strings_HasSuffix Tryz.f87 [(.vw, .str), (.vw, .str)] true .bool
theorem ok_strings_HasSuffix : e_strings_HasSuffix.Ok Tryz.prog := mkE_ok envC (ok_cons ok_internal_stringslite_HasSuffix ok_nil) Tryz.func87 (by decide +kernel) (by kernel_rfl)
def h_impl_isBelow : List (Nat × Hint) := [(3, .join [(0, ⟨[], [(4, 0, .bool)]⟩)])]
noncomputable def e_impl_isBelow : Ent := mkE tysC 47 [e_strings_HasSuffix] h_impl_isBelow Tryz.f47 [(.vw, .str), (.vw, .str)] true .bool
theorem ok_impl_isBelow : e_impl_isBelow.Ok Tryz.prog := mkE_ok envC (ok_cons ok_strings_HasSuffix ok_nil) Tryz.func47 (by decide +kernel) (by kernel_rfl)
def h_impl_at : List (Nat × Hint) := [(58, .loop ⟨[1, 2, 11, 12], [(7, 0, tyRt), (13, 0, (.int .i64))]⟩ [(2, ⟨[], [(7, 0, tyRt)]⟩)]), (467, .join [(0, ⟨[1, 2, 11, 12, 13], [(7, 0, tyRt)]⟩)]), (3737, .join [(0, ⟨[1, 2, 7, 9, 11, 12, 13], [(30, 0, .bool)]⟩)]), (0, .frz [6])]
noncomputable def e_impl_at : Ent := mkE tysC 49 [] h_impl_at Tryz.f49 [(.vw, tyRf), (.vw, .str), (.vw, (.int .i64))] true tyRt
theorem ok_impl_at : e_impl_at.Ok Tryz.prog := mkE_ok envC ok_nil Tryz.func49 (by decide +kernel) (by kernel_rfl)
def h_impl_breaks_1 : List (Nat × Hint) := [(3, .join [(0, ⟨[], [(3, 0, .bool)]⟩)])]
noncomputable def e_impl_breaks_1 : Ent := mkE tysC 118 [] h_impl_breaks_1 Tryz.f118 [(.vw, tyR), (.vw, (.ptr tyR))] true .bool
theorem ok_impl_breaks_1 : e_impl_breaks_1.Ok Tryz.prog := mkE_ok envC ok_nil Tryz.func118 (by decide +kernel) (by kernel_rfl)
def h_slices_IndexFunc_impl_Record_impl_Record__impl_breaks_1 : List (Nat × Hint) := [(26, .loop ⟨[0, 1, 7], [(8, 0, (.int .i64))]⟩ [(1, ⟨[], [(4, 0, (.int .i64))]⟩), (2, ⟨[], []⟩)])]
noncomputable def e_slices_IndexFunc_impl_Record_impl_Record__impl_breaks_1 : Ent := mkE tysC 114 [e_impl_breaks_1] h_slices_IndexFunc_impl_Record_impl_Record__impl_breaks_1 Tryz.f114 [(.vw, tyRf), (.vw, (.fn 118 (.pair (.ptr tyR) .unit)))] true (.int .i64)
theorem ok_slices_IndexFunc_impl_Record_impl_Record__impl_breaks_1 : e_slices_IndexFunc_impl_Record_impl_Record__impl_breaks_1.Ok Tryz.prog := mkE_ok envC (ok_cons ok_impl_breaks_1 ok_nil) Tryz.func114 (by decide +kernel) (by kernel_rfl)
def h_slices_ContainsFunc_impl_Record_impl_Record__impl_breaks_1 : List (Nat × Hint) := []
noncomputable def e_slices_ContainsFunc_impl_Record_impl_Record__impl_breaks_1 : Ent := mkE tysC 89 [e_slices_IndexFunc_impl_Record_impl_Record__impl_breaks_1] h_slices_ContainsFunc_impl_Record_impl_Record__impl_breaks_1 Tryz.f89 [(.vw, tyRf), (.vw, (.fn 118 (.pair (.ptr tyR) .unit)))] true .bool
theorem ok_slices_ContainsFunc_impl_Record_impl_Record__impl_breaks_1 : e_slices_ContainsFunc_impl_Record_impl_Record__impl_breaks_1.Ok Tryz.prog := mkE_ok envC (ok_cons ok_slices_IndexFunc_impl_Record_impl_Record__impl_breaks_1 ok_nil) Tryz.func89 (by decide +kernel) (by kernel_rfl)
def h_impl_breaks_2 : List (Nat × Hint) := [(7, .join [(0, ⟨[], [(4, 0, .bool)]⟩)]), (3, .join [(0, ⟨[2, 3], [(5, 0, .bool)]⟩)])]
noncomputable def e_impl_breaks_2 : Ent := mkE tysC 119 [e_impl_isBelow] h_impl_breaks_2 Tryz.f119 [(.vw, tyR), (.vw, (.ptr .str)), (.vw, (.ptr tyR))] true .bool
theorem ok_impl_breaks_2 : e_impl_breaks_2.Ok Tryz.prog := mkE_ok envC (ok_cons ok_impl_isBelow ok_nil) Tryz.func119 (by decide +kernel) (by kernel_rfl)
def h_slices_IndexFunc_impl_Record_impl_Record__impl_breaks_2 : List (Nat × Hint) := [(26, .loop ⟨[0, 1, 7], [(8, 0, (.int .i64))]⟩ [(1, ⟨[], [(4, 0, (.int .i64))]⟩), (2, ⟨[], []⟩)])]
noncomputable def e_slices_IndexFunc_impl_Record_impl_Record__impl_breaks_2 : Ent := mkE tysC 114 [e_impl_breaks_2] h_slices_IndexFunc_impl_Record_impl_Record__impl_breaks_2 Tryz.f114 [(.vw, tyRf), (.vw, (.fn 119 (.pair (.ptr .str) (.pair (.ptr tyR) .unit))))] true (.int .i64)
theorem ok_slices_IndexFunc_impl_Record_impl_Record__impl_breaks_2 : e_slices_IndexFunc_impl_Record_impl_Record__impl_breaks_2.Ok Tryz.prog := mkE_ok envC (ok_cons ok_impl_breaks_2 ok_nil) Tryz.func114 (by decide +kernel) (by kernel_rfl)
def h_slices_ContainsFunc_impl_Record_impl_Record__impl_breaks_2 : List (Nat × Hint) := []
noncomputable def e_slices_ContainsFunc_impl_Record_impl_Record__impl_breaks_2 : Ent := mkE tysC 89 [e_slices_IndexFunc_impl_Record_impl_Record__impl_breaks_2] h_slices_ContainsFunc_impl_Record_impl_Record__impl_breaks_2 Tryz.f89 [(.vw, tyRf), (.vw, (.fn 119 (.pair (.ptr .str) (.pair (.ptr tyR) .unit))))] true .bool
theorem ok_slices_ContainsFunc_impl_Record_impl_Record__impl_breaks_2 : e_slices_ContainsFunc_impl_Record_impl_Record__impl_breaks_2.Ok Tryz.prog := mkE_ok envC (ok_cons ok_slices_IndexFunc_impl_Record_impl_Record__impl_breaks_2 ok_nil) Tryz.func89 (by decide +kernel) (by kernel_rfl)
def h_impl_breaks : List (Nat × Hint) := [(27646, .join [(0, ⟨[], [(8, 0, .bool)]⟩)]), (6910, .join [(0, ⟨[], [(8, 0, .bool)]⟩)]), (430, .join [(0, ⟨[], [(8, 0, .bool)]⟩)])]
noncomputable def e_impl_breaks : Ent := mkE tysC 97 [e_impl_isBelow, e_impl_at, e_slices_ContainsFunc_impl_Record_impl_Record__impl_breaks_1, e_slices_ContainsFunc_impl_Record_impl_Record__impl_breaks_2] h_impl_breaks Tryz.f97 [(.vw, .str), (.vw, tyRf), (.vw, tyR), (.vw, (.int .i64))] true .bool
theorem ok_impl_breaks : e_impl_breaks.Ok Tryz.prog := mkE_ok envC (ok_cons ok_impl_isBelow (ok_cons ok_impl_at (ok_cons ok_slices_ContainsFunc_impl_Record_impl_Record__impl_breaks_1 (ok_cons ok_slices_ContainsFunc_impl_Record_impl_Record__impl_breaks_2 ok_nil)))) Tryz.func97 (by decide +kernel) (by kernel_rfl)
def h_impl_RuleOf_1 : List (Nat × Hint) := []
noncomputable def e_impl_RuleOf_1 : Ent := mkE tysC 96 [e_impl_breaks] h_impl_RuleOf_1 Tryz.f96 [(.vw, tyR), (.vw, (.ptr .str)), (.vw, (.ptr tyRf)), (.vw, (.ptr (.int .i64)))] true .bool
theorem ok_impl_RuleOf_1 : e_impl_RuleOf_1.Ok Tryz.prog := mkE_ok envC (ok_cons ok_impl_breaks ok_nil) Tryz.func96 (by decide +kernel) (by kernel_rfl)
def h_slices_IndexFunc_impl_Record_impl_Record__impl_RuleOf_1 : List (Nat × Hint) := [(26, .loop ⟨[0, 1, 7], [(8, 0, (.int .i64))]⟩ [(1, ⟨[], [(4, 0, (.int .i64))]⟩), (2, ⟨[], []⟩)])]
noncomputable def e_slices_IndexFunc_impl_Record_impl_Record__impl_RuleOf_1 : Ent := mkE tysC 114 [e_impl_RuleOf_1] h_slices_IndexFunc_impl_Record_impl_Record__impl_RuleOf_1 Tryz.f114 [(.vw, tyRf), (.vw, (.fn 96 (.pair (.ptr .str) (.pair (.ptr tyRf) (.pair (.ptr (.int .i64)) .unit)))))] true (.int .i64)
theorem ok_slices_IndexFunc_impl_Record_impl_Record__impl_RuleOf_1 : e_slices_IndexFunc_impl_Record_impl_Record__impl_RuleOf_1.Ok Tryz.prog := mkE_ok envC (ok_cons ok_impl_RuleOf_1 ok_nil) Tryz.func114 (by decide +kernel) (by kernel_rfl)
def h_slices_ContainsFunc_impl_Record_impl_Record__impl_RuleOf_1 : List (Nat × Hint) := []
noncomputable def e_slices_ContainsFunc_impl_Record_impl_Record__impl_RuleOf_1 : Ent := mkE tysC 89 [e_slices_IndexFunc_impl_Record_impl_Record__impl_RuleOf_1] h_slices_ContainsFunc_impl_Record_impl_Record__impl_RuleOf_1 Tryz.f89 [(.vw, tyRf), (.vw, (.fn 96 (.pair (.ptr .str) (.pair (.ptr tyRf) (.pair (.ptr (.int .i64)) .unit)))))] true .bool
theorem ok_slices_ContainsFunc_impl_Record_impl_Record__impl_RuleOf_1 : e_slices_ContainsFunc_impl_Record_impl_Record__impl_RuleOf_1.Ok Tryz.prog := mkE_ok envC (ok_cons ok_slices_IndexFunc_impl_Record_impl_Record__impl_RuleOf_1 ok_nil) Tryz.func89 (by decide +kernel) (by kernel_rfl)
def h_impl_RuleOf : List (Nat × Hint) := [(58, .loop ⟨[2, 3], [(5, 2, (.int .i64))]⟩ [(1, ⟨[], [(4, 0, (.int .i64))]⟩), (2, ⟨[], []⟩)]), (932, .join [(0, ⟨[2, 3, 5], [(27, 0, .bool)]⟩)])]
noncomputable def e_impl_RuleOf : Ent := mkE tysC 66 [e_impl_isWhole, e_slices_ContainsFunc_impl_Record_impl_Record__impl_RuleOf_1, e_impl_at] h_impl_RuleOf Tryz.f66 [(.vw, .str), (.vw, tyRf)] true (.int .i64)
theorem ok_impl_RuleOf : e_impl_RuleOf.Ok Tryz.prog := mkE_ok envC (ok_cons ok_impl_isWhole (ok_cons ok_slices_ContainsFunc_impl_Record_impl_Record__impl_RuleOf_1 (ok_cons ok_impl_at ok_nil))) Tryz.func66 (by decide +kernel) (by kernel_rfl)
def h_impl_serialText : List (Nat × Hint) := []
noncomputable def e_impl_serialText : Ent := mkE tysC 67 [e_strconv_Itoa] h_impl_serialText Tryz.f67 [(.vw, (.int .i64))] true .str
theorem ok_impl_serialText : e_impl_serialText.Ok Tryz.prog := mkE_ok envC (ok_cons ok_strconv_Itoa ok_nil) Tryz.func67 (by decide +kernel) (by kernel_rfl)
def h_impl_GoodZone : List (Nat × Hint) := [(3, .join [(0, ⟨[], [(2, 0, .bool)]⟩)])]
noncomputable def e_impl_GoodZone : Ent := mkE tysC 26 [e_impl_isCounter, e_impl_RuleOf, e_impl_at, e_impl_serialText] h_impl_GoodZone Tryz.f26 [(.vw, tyZf)] true .bool
theorem ok_impl_GoodZone : e_impl_GoodZone.Ok Tryz.prog := mkE_ok envC (ok_cons ok_impl_isCounter (ok_cons ok_impl_RuleOf (ok_cons ok_impl_at (ok_cons ok_impl_serialText ok_nil)))) Tryz.func26 (by decide +kernel) (by kernel_rfl)
def h_impl_GoodWorld : List (Nat × Hint) := [(58, .loop ⟨[1, 19, 20], [(21, 0, (.int .i64))]⟩ [(1, ⟨[], [(2, 0, .bool)]⟩), (2, ⟨[], []⟩)]), (3737, .join [(0, ⟨[1, 19, 20, 21], [(45, 0, .bool)]⟩)]), (6, .join [(0, ⟨[1], [(17, 0, .bool)]⟩)])]
noncomputable def e_impl_GoodWorld : Ent := mkE tysC 8 [e_impl_within, e_impl_GoodZone, e_impl_compareNames] h_impl_GoodWorld Tryz.f8 [(.vw, (.pair (.lst false tyZf) .unit))] true .bool
theorem ok_impl_GoodWorld : e_impl_GoodWorld.Ok Tryz.prog := mkE_ok envC (ok_cons ok_impl_within (ok_cons ok_impl_GoodZone (ok_cons ok_impl_compareNames ok_nil))) Tryz.func8 (by decide +kernel) (by kernel_rfl)
def h_slices_Index_int_int : List (Nat × Hint) := [(26, .loop ⟨[0, 1, 7], [(8, 0, (.int .i64))]⟩ [(1, ⟨[], [(4, 0, (.int .i64))]⟩), (2, ⟨[], []⟩)])]
noncomputable def e_slices_Index_int_int : Ent := mkE tysC 86 [] h_slices_Index_int_int Tryz.f86 [(.vw, (.lst false (.int .i64))), (.vw, (.int .i64))] true (.int .i64)
theorem ok_slices_Index_int_int : e_slices_Index_int_int.Ok Tryz.prog := mkE_ok envC ok_nil Tryz.func86 (by decide +kernel) (by kernel_rfl)
def h_slices_Contains_int_int : List (Nat × Hint) := []
noncomputable def e_slices_Contains_int_int : Ent := mkE tysC 46 [e_slices_Index_int_int] h_slices_Contains_int_int Tryz.f46 [(.vw, (.lst false (.int .i64))), (.vw, (.int .i64))] true .bool
theorem ok_slices_Contains_int_int : e_slices_Contains_int_int.Ok Tryz.prog := mkE_ok envC (ok_cons ok_slices_Index_int_int ok_nil) Tryz.func46 (by decide +kernel) (by kernel_rfl)
def h_impl_isType : List (Nat × Hint) := []
noncomputable def e_impl_isType : Ent := mkE tysC 17 [e_slices_Contains_int_int] h_impl_isType Tryz.f17 [(.vw, (.int .i64))] true .bool
theorem ok_impl_isType : e_impl_isType.Ok Tryz.prog := mkE_ok envC (ok_cons ok_slices_Contains_int_int ok_nil) Tryz.func17 (by decide +kernel) (by kernel_rfl)
def h_impl_parentOf : List (Nat × Hint) := []
noncomputable def e_impl_parentOf : Ent := mkE tysC 88 [e_strings_Cut] h_impl_parentOf Tryz.f88 [(.vw, .str)] true .str
theorem ok_impl_parentOf : e_impl_parentOf.Ok Tryz.prog := mkE_ok envC (ok_cons ok_strings_Cut ok_nil) Tryz.func88 (by decide +kernel) (by kernel_rfl)
def h_impl_cutAbove : List (Nat × Hint) := [(28, .loop ⟨[2], [(1, 0, .str), (6, 0, .str), (7, 0, .bool)]⟩ [(2, ⟨[], [(6, 0, .str), (7, 0, .bool)]⟩)]), (113, .join [(0, ⟨[1, 2], [(6, 0, .str), (7, 0, .bool)]⟩)])]
noncomputable def e_impl_cutAbove : Ent := mkE tysC 48 [e_impl_at, e_impl_parentOf] h_impl_cutAbove Tryz.f48 [(.vw, tyZf), (.vw, .str)] false (.pair .str (.pair .bool .unit))
theorem ok_impl_cutAbove : e_impl_cutAbove.Ok Tryz.prog := mkE_ok envC (ok_cons ok_impl_at (ok_cons ok_impl_parentOf ok_nil)) Tryz.func48 (by decide +kernel) (by kernel_rfl)
def h_impl_isThere_1 : List (Nat × Hint) := []
noncomputable def e_impl_isThere_1 : Ent := mkE tysC 90 [e_impl_isBelow] h_impl_isThere_1 Tryz.f90 [(.vw, tyR), (.vw, (.ptr .str))] true .bool
theorem ok_impl_isThere_1 : e_impl_isThere_1.Ok Tryz.prog := mkE_ok envC (ok_cons ok_impl_isBelow ok_nil) Tryz.func90 (by decide +kernel) (by kernel_rfl)
def h_slices_IndexFunc_impl_Record_impl_Record__impl_isThere_1 : List (Nat × Hint) := [(26, .loop ⟨[0, 1, 7], [(8, 0, (.int .i64))]⟩ [(1, ⟨[], [(4, 0, (.int .i64))]⟩), (2, ⟨[], []⟩)])]
noncomputable def e_slices_IndexFunc_impl_Record_impl_Record__impl_isThere_1 : Ent := mkE tysC 114 [e_impl_isThere_1] h_slices_IndexFunc_impl_Record_impl_Record__impl_isThere_1 Tryz.f114 [(.vw, tyRf), (.vw, (.fn 90 (.pair (.ptr .str) .unit)))] true (.int .i64)
theorem ok_slices_IndexFunc_impl_Record_impl_Record__impl_isThere_1 : e_slices_IndexFunc_impl_Record_impl_Record__impl_isThere_1.Ok Tryz.prog := mkE_ok envC (ok_cons ok_impl_isThere_1 ok_nil) Tryz.func114 (by decide +kernel) (by kernel_rfl)
def h_slices_ContainsFunc_impl_Record_impl_Record__impl_isThere_1 : List (Nat × Hint) := []
noncomputable def e_slices_ContainsFunc_impl_Record_impl_Record__impl_isThere_1 : Ent := mkE tysC 89 [e_slices_IndexFunc_impl_Record_impl_Record__impl_isThere_1] h_slices_ContainsFunc_impl_Record_impl_Record__impl_isThere_1 Tryz.f89 [(.vw, tyRf), (.vw, (.fn 90 (.pair (.ptr .str) .unit)))] true .bool
theorem ok_slices_ContainsFunc_impl_Record_impl_Record__impl_isThere_1 : e_slices_ContainsFunc_impl_Record_impl_Record__impl_isThere_1.Ok Tryz.prog := mkE_ok envC (ok_cons ok_slices_IndexFunc_impl_Record_impl_Record__impl_isThere_1 ok_nil) Tryz.func89 (by decide +kernel) (by kernel_rfl)
def h_impl_isThere : List (Nat × Hint) := [(3, .join [(0, ⟨[], [(4, 0, .bool)]⟩)])]
noncomputable def e_impl_isThere : Ent := mkE tysC 50 [e_impl_isBelow, e_slices_ContainsFunc_impl_Record_impl_Record__impl_isThere_1] h_impl_isThere Tryz.f50 [(.vw, tyZf), (.vw, .str)] true .bool
theorem ok_impl_isThere : e_impl_isThere.Ok Tryz.prog := mkE_ok envC (ok_cons ok_impl_isBelow (ok_cons ok_slices_ContainsFunc_impl_Record_impl_Record__impl_isThere_1 ok_nil)) Tryz.func50 (by decide +kernel) (by kernel_rfl)
def h_impl_encloserOf : List (Nat × Hint) := [(12, .loop ⟨[2], [(1, 0, .str)]⟩ [(2, ⟨[], [(1, 0, .str)]⟩)])]
noncomputable def e_impl_encloserOf : Ent := mkE tysC 51 [e_impl_isThere, e_impl_parentOf] h_impl_encloserOf Tryz.f51 [(.vw, tyZf), (.vw, .str)] true .str
theorem ok_impl_encloserOf : e_impl_encloserOf.Ok Tryz.prog := mkE_ok envC (ok_cons ok_impl_isThere (ok_cons ok_impl_parentOf ok_nil)) Tryz.func51 (by decide +kernel) (by kernel_rfl)
def h_impl_starOf : List (Nat × Hint) := []
noncomputable def e_impl_starOf : Ent := mkE tysC 52 [] h_impl_starOf Tryz.f52 [(.vw, .str)] true .str
theorem ok_impl_starOf : e_impl_starOf.Ok Tryz.prog := mkE_ok envC ok_nil Tryz.func52 (by decide +kernel) (by kernel_rfl)
def h_impl_lookUp : List (Nat × Hint) := [(4090, .loop ⟨[1, 6, 73], [(11, 2, (.pair (.int .i64) (.pair .str (.pair tyRt (.pair tyRt .unit))))), (74, 0, (.int .i64))]⟩ [(2, ⟨[6], [(11, 2, (.pair (.int .i64) (.pair .str (.pair tyRt (.pair tyRt .unit)))))]⟩)]), (127, .join [(0, ⟨[1, 6, 9], [(11, 2, (.pair (.int .i64) (.pair .str (.pair tyRt (.pair tyRt .unit)))))]⟩)]), (31, .join [(0, ⟨[1, 2, 3, 6], [(9, 0, .str)]⟩), (1, ⟨[], [(6, 2, (.pair (.int .i64) (.pair .str (.pair tyRt (.pair tyRt .unit)))))]⟩)])]
noncomputable def e_impl_lookUp : Ent := mkE tysC 18 [e_impl_isBelow, e_impl_cutAbove, e_impl_at, e_impl_isThere, e_impl_encloserOf, e_impl_starOf] h_impl_lookUp Tryz.f18 [(.vw, tyZf), (.vw, .str), (.vw, (.int .i64))] true (.pair (.int .i64) (.pair .str (.pair tyRt (.pair tyRt .unit))))
theorem ok_impl_lookUp : e_impl_lookUp.Ok Tryz.prog := mkE_ok envC (ok_cons ok_impl_isBelow (ok_cons ok_impl_cutAbove (ok_cons ok_impl_at (ok_cons ok_impl_isThere (ok_cons ok_impl_encloserOf (ok_cons ok_impl_starOf ok_nil)))))) Tryz.func18 (by decide +kernel) (by kernel_rfl)
def h_impl_World_find_1 : List (Nat × Hint) := []
noncomputable def e_impl_World_find_1 : Ent := mkE tysC 54 [e_impl_compareNames] h_impl_World_find_1 Tryz.f54 [(.vw, tyZf), (.vw, .str)] true (.int .i64)
theorem ok_impl_World_find_1 : e_impl_World_find_1.Ok Tryz.prog := mkE_ok envC (ok_cons ok_impl_compareNames ok_nil) Tryz.func54 (by decide +kernel) (by kernel_rfl)
def h_slices_BinarySearchFunc_impl_Zone_impl_Zone_string__impl_World_find_1 : List (Nat × Hint) := [(31, .join [(0, ⟨[], [(6, 0, (.int .i64)), (7, 0, .bool)]⟩)]), (60, .loop ⟨[0, 1, 2, 8], [(9, 0, (.int .i64)), (10, 0, (.int .i64))]⟩ [(2, ⟨[0, 1, 2, 8], [(9, 0, (.int .i64))]⟩)])]
noncomputable def e_slices_BinarySearchFunc_impl_Zone_impl_Zone_string__impl_World_find_1 : Ent := mkE tysC 53 [e_impl_World_find_1] h_slices_BinarySearchFunc_impl_Zone_impl_Zone_string__impl_World_find_1 Tryz.f53 [(.vw, (.lst false tyZf)), (.vw, .str), (.vw, (.fn 54 .unit))] false (.pair (.int .i64) (.pair .bool .unit))
theorem ok_slices_BinarySearchFunc_impl_Zone_impl_Zone_string__impl_World_find_1 : e_slices_BinarySearchFunc_impl_Zone_impl_Zone_string__impl_World_find_1.Ok Tryz.prog := mkE_ok envC (ok_cons ok_impl_World_find_1 ok_nil) Tryz.func53 (by decide +kernel) (by kernel_rfl)
def h_impl_World_find : List (Nat × Hint) := []
noncomputable def e_impl_World_find : Ent := mkE tysC 19 [e_slices_BinarySearchFunc_impl_Zone_impl_Zone_string__impl_World_find_1] h_impl_World_find Tryz.f19 [(.vw, (.pair (.lst false tyZf) .unit)), (.vw, .str)] false (.pair (.int .i64) (.pair .bool .unit))
theorem ok_impl_World_find : e_impl_World_find.Ok Tryz.prog := mkE_ok envC (ok_cons ok_slices_BinarySearchFunc_impl_Zone_impl_Zone_string__impl_World_find_1 ok_nil) Tryz.func19 (by decide +kernel) (by kernel_rfl)
def h_impl_targetOf : List (Nat × Hint) := [(26, .join [(0, ⟨[1, 8], [(9, 0, .bool)]⟩)])]
noncomputable def e_impl_targetOf : Ent := mkE tysC 20 [e_strings_Cut] h_impl_targetOf Tryz.f20 [(.vw, tyR)] false (.pair .str (.pair .bool .unit))
theorem ok_impl_targetOf : e_impl_targetOf.Ok Tryz.prog := mkE_ok envC (ok_cons ok_strings_Cut ok_nil) Tryz.func20 (by decide +kernel) (by kernel_rfl)
def h_impl_Resolve : List (Nat × Hint) := [(124, .loop ⟨[2, 3, 6], [(1, 0, .str), (8, 2, (.pair (.int .i64) (.pair tyRt (.pair tyRt (.pair .str (.pair (.int .i64) .unit)))))), (9, 0, (.int .i64))]⟩ [(1, ⟨[], [(6, 2, (.pair (.int .i64) (.pair tyRt (.pair tyRt (.pair .str (.pair (.int .i64) .unit)))))), (7, 0, .bool)]⟩), (2, ⟨[6], []⟩)]), (15918, .join [(0, ⟨[2, 3, 6, 8, 9, 10], [(67, 0, .bool)]⟩)]), (3979, .join [(0, ⟨[2, 3, 6, 8, 9, 10], []⟩), (3, ⟨[1, 2, 3, 6, 8], [(9, 0, (.int .i64))]⟩)]), (6, .join [(0, ⟨[1, 2, 3, 6], [(29, 0, .bool)]⟩)])]
noncomputable def e_impl_Resolve : Ent := mkE tysC 5 [e_impl_GoodWorld, e_impl_GoodName, e_impl_isType, e_impl_lookUp, e_impl_World_find, e_impl_targetOf] h_impl_Resolve Tryz.f5 [(.vw, (.pair (.lst false tyZf) .unit)), (.vw, .str), (.vw, (.int .i64))] false (.pair (.pair (.int .i64) (.pair tyRt (.pair tyRt (.pair .str (.pair (.int .i64) .unit))))) (.pair .bool .unit))
theorem ok_impl_Resolve : e_impl_Resolve.Ok Tryz.prog := mkE_ok envC (ok_cons ok_impl_GoodWorld (ok_cons ok_impl_GoodName (ok_cons ok_impl_isType (ok_cons ok_impl_lookUp (ok_cons ok_impl_World_find (ok_cons ok_impl_targetOf ok_nil)))))) Tryz.func5 (by decide +kernel) (by kernel_rfl)
def h_spec_l1Has : List (Nat × Hint) := [(26, .loop ⟨[1, 7, 8], [(9, 0, (.int .i64))]⟩ [(1, ⟨[], [(4, 0, .bool)]⟩), (2, ⟨[], []⟩)])]
noncomputable def e_spec_l1Has : Ent := mkE tysC 57 [] h_spec_l1Has Tryz.f57 [(.vw, (.lst false (.int .i64))), (.vw, (.int .i64))] true .bool
theorem ok_spec_l1Has : e_spec_l1Has.Ok Tryz.prog := mkE_ok envC ok_nil Tryz.func57 (by decide +kernel) (by kernel_rfl)
def h_spec_l3Type : List (Nat × Hint) := []
noncomputable def e_spec_l3Type : Ent := mkE tysC 22 [e_spec_l1Has] h_spec_l3Type Tryz.f22 [(.vw, (.int .i64))] true .bool
theorem ok_spec_l3Type : e_spec_l3Type.Ok Tryz.prog := mkE_ok envC (ok_cons ok_spec_l1Has ok_nil) Tryz.func22 (by decide +kernel) (by kernel_rfl)
def h_spec_l6Set : List (Nat × Hint) := [(58, .loop ⟨[1, 2, 10, 11], [(7, 0, tyRt), (12, 0, (.int .i64))]⟩ [(2, ⟨[], [(7, 0, tyRt)]⟩)]), (467, .join [(0, ⟨[1, 2, 10, 11, 12], [(7, 0, tyRt)]⟩)]), (3737, .join [(0, ⟨[1, 2, 7, 9, 10, 11, 12], [(25, 0, .bool)]⟩)]), (0, .frz [6])]
noncomputable def e_spec_l6Set : Ent := mkE tysC 60 [] h_spec_l6Set Tryz.f60 [(.vw, tyRf), (.vw, .str), (.vw, (.int .i64))] true tyRt
theorem ok_spec_l6Set : e_spec_l6Set.Ok Tryz.prog := mkE_ok envC ok_nil Tryz.func60 (by decide +kernel) (by kernel_rfl)
def h_spec_l7There : List (Nat × Hint) := [(26, .loop ⟨[1, 8, 9], [(10, 0, (.int .i64))]⟩ [(1, ⟨[], [(4, 0, .bool)]⟩), (2, ⟨[], []⟩)])]
noncomputable def e_spec_l7There : Ent := mkE tysC 61 [e_spec_l1Below] h_spec_l7There Tryz.f61 [(.vw, tyZf), (.vw, .str)] true .bool
theorem ok_spec_l7There : e_spec_l7There.Ok Tryz.prog := mkE_ok envC (ok_cons ok_spec_l1Below ok_nil) Tryz.func61 (by decide +kernel) (by kernel_rfl)
def h_spec_l7By : List (Nat × Hint) := [(250, .loop ⟨[2, 8, 10, 32, 33], [(9, 2, (.pair (.int .i64) (.pair .str (.pair tyRt (.pair tyRt .unit))))), (34, 0, (.int .i64))]⟩ [(2, ⟨[8], [(9, 2, (.pair (.int .i64) (.pair .str (.pair tyRt (.pair tyRt .unit)))))]⟩)]), (15, .join [(0, ⟨[2, 8], [(9, 2, (.pair (.int .i64) (.pair .str (.pair tyRt (.pair tyRt .unit))))), (10, 0, tyRt)]⟩)])]
noncomputable def e_spec_l7By : Ent := mkE tysC 62 [e_spec_l6Set] h_spec_l7By Tryz.f62 [(.vw, tyZf), (.vw, .str), (.vw, .str), (.vw, (.int .i64))] true (.pair (.int .i64) (.pair .str (.pair tyRt (.pair tyRt .unit))))
theorem ok_spec_l7By : e_spec_l7By.Ok Tryz.prog := mkE_ok envC (ok_cons ok_spec_l6Set ok_nil) Tryz.func62 (by decide +kernel) (by kernel_rfl)
def h_spec_l7Encloser : List (Nat × Hint) := [(12, .loop ⟨[2], [(1, 0, .str)]⟩ [(2, ⟨[], [(1, 0, .str)]⟩)]), (48, .join [(0, ⟨[1, 2], [(14, 0, .bool)]⟩)])]
noncomputable def e_spec_l7Encloser : Ent := mkE tysC 63 [e_spec_l7There, e_spec_l1Parent] h_spec_l7Encloser Tryz.f63 [(.vw, tyZf), (.vw, .str)] true .str
theorem ok_spec_l7Encloser : e_spec_l7Encloser.Ok Tryz.prog := mkE_ok envC (ok_cons ok_spec_l7There (ok_cons ok_spec_l1Parent ok_nil)) Tryz.func63 (by decide +kernel) (by kernel_rfl)
def h_spec_l7Look : List (Nat × Hint) := [(127, .join [(0, ⟨[1, 2, 3, 6, 9], [(10, 0, .str)]⟩)])]
noncomputable def e_spec_l7Look : Ent := mkE tysC 23 [e_spec_l1Below, e_spec_l6Cut, e_spec_l6Set, e_spec_l7There, e_spec_l7By, e_spec_l7Encloser] h_spec_l7Look Tryz.f23 [(.vw, tyZf), (.vw, .str), (.vw, (.int .i64))] true (.pair (.int .i64) (.pair .str (.pair tyRt (.pair tyRt .unit))))
theorem ok_spec_l7Look : e_spec_l7Look.Ok Tryz.prog := mkE_ok envC (ok_cons ok_spec_l1Below (ok_cons ok_spec_l6Cut (ok_cons ok_spec_l6Set (ok_cons ok_spec_l7There (ok_cons ok_spec_l7By (ok_cons ok_spec_l7Encloser ok_nil)))))) Tryz.func23 (by decide +kernel) (by kernel_rfl)
def h_spec_l11At : List (Nat × Hint) := [(26, .loop ⟨[1, 8, 9], [(10, 0, (.int .i64))]⟩ [(1, ⟨[], [(4, 0, (.int .i64))]⟩), (2, ⟨[], []⟩)])]
noncomputable def e_spec_l11At : Ent := mkE tysC 64 [] h_spec_l11At Tryz.f64 [(.vw, (.pair (.lst false tyZf) .unit)), (.vw, .str)] true (.int .i64)
theorem ok_spec_l11At : e_spec_l11At.Ok Tryz.prog := mkE_ok envC ok_nil Tryz.func64 (by decide +kernel) (by kernel_rfl)
def h_spec_l11Next : List (Nat × Hint) := []
noncomputable def e_spec_l11Next : Ent := mkE tysC 24 [e_spec_l6Cut, e_spec_l11At] h_spec_l11Next Tryz.f24 [(.vw, (.pair (.lst false tyZf) .unit)), (.vw, (.int .i64)), (.vw, .str)] true (.int .i64)
theorem ok_spec_l11Next : e_spec_l11Next.Ok Tryz.prog := mkE_ok envC (ok_cons ok_spec_l6Cut (ok_cons ok_spec_l11At ok_nil)) Tryz.func24 (by decide +kernel) (by kernel_rfl)
def h_spec_Resolve : List (Nat × Hint) := [(124, .loop ⟨[2, 3, 6], [(1, 0, .str), (8, 2, (.pair (.int .i64) (.pair tyRt (.pair tyRt (.pair .str (.pair (.int .i64) .unit)))))), (9, 0, (.int .i64))]⟩ [(1, ⟨[], [(6, 2, (.pair (.int .i64) (.pair tyRt (.pair tyRt (.pair .str (.pair (.int .i64) .unit)))))), (7, 0, .bool)]⟩), (2, ⟨[6], []⟩)]), (15918, .join [(0, ⟨[2, 3, 6, 8, 9, 10], [(64, 0, .bool)]⟩)]), (3979, .join [(0, ⟨[2, 3, 6, 8, 9, 10], []⟩), (3, ⟨[1, 2, 3, 6, 8], [(9, 0, (.int .i64))]⟩)]), (6, .join [(0, ⟨[1, 2, 3, 6], [(28, 0, .bool)]⟩)])]
noncomputable def e_spec_Resolve : Ent := mkE tysC 6 [e_spec_GoodWorld, e_spec_GoodName, e_spec_l3Type, e_spec_l7Look, e_spec_l11Next] h_spec_Resolve Tryz.f6 [(.vw, (.pair (.lst false tyZf) .unit)), (.vw, .str), (.vw, (.int .i64))] false (.pair (.pair (.int .i64) (.pair tyRt (.pair tyRt (.pair .str (.pair (.int .i64) .unit))))) (.pair .bool .unit))
theorem ok_spec_Resolve : e_spec_Resolve.Ok Tryz.prog := mkE_ok envC (ok_cons ok_spec_GoodWorld (ok_cons ok_spec_GoodName (ok_cons ok_spec_l3Type (ok_cons ok_spec_l7Look (ok_cons ok_spec_l11Next ok_nil))))) Tryz.func6 (by decide +kernel) (by kernel_rfl)
def h_laws_sameRecords : List (Nat × Hint) := [(58, .loop ⟨[0, 1, 12], [(13, 0, (.int .i64))]⟩ [(1, ⟨[4], []⟩), (2, ⟨[], []⟩)])]
noncomputable def e_laws_sameRecords : Ent := mkE tysC 12 [] h_laws_sameRecords Tryz.f12 [(.vw, tyRf), (.vw, tyRf)] true .bool
theorem ok_laws_sameRecords : e_laws_sameRecords.Ok Tryz.prog := mkE_ok envC ok_nil Tryz.func12 (by decide +kernel) (by kernel_rfl)
def h_laws_sameTold : List (Nat × Hint) := [(3, .join [(0, ⟨[], [(4, 0, .bool)]⟩)])]
noncomputable def e_laws_sameTold : Ent := mkE tysC 7 [e_laws_sameRecords] h_laws_sameTold Tryz.f7 [(.vw, (.pair (.int .i64) (.pair tyRf (.pair tyRf (.pair .str (.pair (.int .i64) .unit)))))), (.vw, (.pair (.int .i64) (.pair tyRf (.pair tyRf (.pair .str (.pair (.int .i64) .unit))))))] true .bool
theorem ok_laws_sameTold : e_laws_sameTold.Ok Tryz.prog := mkE_ok envC (ok_cons ok_laws_sameRecords ok_nil) Tryz.func7 (by decide +kernel) (by kernel_rfl)
def h_impl_reachedBy : List (Nat × Hint) := [(30, .loop ⟨[1, 2], [(5, 0, (.int .i64)), (6, 0, (.lst true .str))]⟩ [(1, ⟨[], [(4, 0, (.lst true .str))]⟩)]), (966, .join [(0, ⟨[1, 2, 6, 7, 9], [(33, 0, .bool)]⟩)])]
noncomputable def e_impl_reachedBy : Ent := mkE tysC 31 [e_impl_cutAbove, e_impl_World_find] h_impl_reachedBy Tryz.f31 [(.vw, (.pair (.lst false tyZf) .unit)), (.vw, .str)] true (.lst true .str)
theorem ok_impl_reachedBy : e_impl_reachedBy.Ok Tryz.prog := mkE_ok envC (ok_cons ok_impl_cutAbove (ok_cons ok_impl_World_find ok_nil)) Tryz.func31 (by decide +kernel) (by kernel_rfl)
def h_impl_ReachedBy : List (Nat × Hint) := [(6, .join [(0, ⟨[1, 2], [(13, 0, .bool)]⟩)])]
noncomputable def e_impl_ReachedBy : Ent := mkE tysC 10 [e_impl_GoodWorld, e_impl_GoodName, e_impl_reachedBy] h_impl_ReachedBy Tryz.f10 [(.vw, (.pair (.lst false tyZf) .unit)), (.vw, .str)] false (.pair (.lst true .str) (.pair .bool .unit))
theorem ok_impl_ReachedBy : e_impl_ReachedBy.Ok Tryz.prog := mkE_ok envC (ok_cons ok_impl_GoodWorld (ok_cons ok_impl_GoodName (ok_cons ok_impl_reachedBy ok_nil))) Tryz.func10 (by decide +kernel) (by kernel_rfl)
def h_impl_isAsked : List (Nat × Hint) := [(3, .join [(0, ⟨[], [(6, 0, .bool)]⟩)])]
noncomputable def e_impl_isAsked : Ent := mkE tysC 72 [e_impl_GoodZone, e_impl_GoodName, e_impl_isType] h_impl_isAsked Tryz.f72 [(.vw, tyZf), (.vw, .str), (.vw, (.int .i64))] true .bool
theorem ok_impl_isAsked : e_impl_isAsked.Ok Tryz.prog := mkE_ok envC (ok_cons ok_impl_GoodZone (ok_cons ok_impl_GoodName (ok_cons ok_impl_isType ok_nil))) Tryz.func72 (by decide +kernel) (by kernel_rfl)
def h_impl_LookUp : List (Nat × Hint) := []
noncomputable def e_impl_LookUp : Ent := mkE tysC 32 [e_impl_isAsked, e_impl_lookUp] h_impl_LookUp Tryz.f32 [(.vw, tyZf), (.vw, .str), (.vw, (.int .i64))] false (.pair (.pair (.int .i64) (.pair .str (.pair tyRt (.pair tyRt .unit)))) (.pair .bool .unit))
theorem ok_impl_LookUp : e_impl_LookUp.Ok Tryz.prog := mkE_ok envC (ok_cons ok_impl_isAsked (ok_cons ok_impl_lookUp ok_nil)) Tryz.func32 (by decide +kernel) (by kernel_rfl)
def h_impl_AskFrom : List (Nat × Hint) := [(6, .join [(0, ⟨[1, 2, 3, 4, 8], [(19, 0, .bool)]⟩)])]
noncomputable def e_impl_AskFrom : Ent := mkE tysC 11 [e_impl_GoodWorld, e_impl_GoodName, e_impl_World_find, e_impl_LookUp] h_impl_AskFrom Tryz.f11 [(.vw, (.pair (.lst false tyZf) .unit)), (.vw, .str), (.vw, .str), (.vw, (.int .i64))] false (.pair (.pair (.int .i64) (.pair .str (.pair tyRt (.pair tyRt .unit)))) (.pair .bool .unit))
theorem ok_impl_AskFrom : e_impl_AskFrom.Ok Tryz.prog := mkE_ok envC (ok_cons ok_impl_GoodWorld (ok_cons ok_impl_GoodName (ok_cons ok_impl_World_find (ok_cons ok_impl_LookUp ok_nil)))) Tryz.func11 (by decide +kernel) (by kernel_rfl)
def h_laws_FnResolved : List (Nat × Hint) := [(8191, .join [(0, ⟨[], [(2, 0, .bool)]⟩)]), (4094, .join [(0, ⟨[3, 5, 6, 10], [(121, 0, .bool)]⟩)]), (4090, .loop ⟨[3, 5, 6, 63, 64], [(10, 0, .str), (65, 0, (.int .i64))]⟩ [(1, ⟨[], [(2, 0, .bool)]⟩), (2, ⟨[3, 5, 6], [(10, 0, .str)]⟩)]), (523570, .join [(0, ⟨[3, 5, 6, 12, 63, 64, 65], [(77, 0, .bool)]⟩)]), (126, .join [(0, ⟨[3, 4, 5, 6, 7], [(55, 0, .bool)]⟩)])]
noncomputable def e_laws_FnResolved : Ent := mkE tysC 3 [e_spec_DrawResolve, e_impl_Resolve, e_spec_Resolve, e_laws_sameTold, e_impl_GoodWorld, e_spec_GoodWorld, e_impl_ReachedBy, e_impl_AskFrom, e_laws_sameRecords] h_laws_FnResolved Tryz.f3 [(.vw, (.lst false (.int .u8)))] true .bool
theorem ok_laws_FnResolved : e_laws_FnResolved.Ok Tryz.prog := mkE_ok envC (ok_cons ok_spec_DrawResolve (ok_cons ok_impl_Resolve (ok_cons ok_spec_Resolve (ok_cons ok_laws_sameTold (ok_cons ok_impl_GoodWorld (ok_cons ok_spec_GoodWorld (ok_cons ok_impl_ReachedBy (ok_cons ok_impl_AskFrom (ok_cons ok_laws_sameRecords ok_nil))))))))) Tryz.func3 (by decide +kernel) (by kernel_rfl)
end Go.Proofs.YtfgfpdingddkcaaGreatDoor
