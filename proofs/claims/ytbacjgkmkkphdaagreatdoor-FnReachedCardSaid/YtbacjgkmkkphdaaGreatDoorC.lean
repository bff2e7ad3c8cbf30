/- The functions that the law reaches, each as a program of expressions. -/
import Derived.Test.YtbacjgkmkkphdaaGreatDoorLb1
import Derived.Test.YtbacjgkmkkphdaaGreatDoorProg
import Derived.KernelRfl
import Derived.Test.YtbacjgkmkkphdaaGreatDoorLays
set_option linter.unusedSectionVars false
set_option linter.unusedVariables false
set_option linter.unusedSimpArgs false
namespace Go.Proofs.YtbacjgkmkkphdaaGreatDoor
open Go Go.Own
set_option maxRecDepth 100000
instance glbI : Glb := Glb.at [(1, isInt .i64), (6, isErr), (7, isErr), (0, isArr (Lib.pow10Tab.map fun z => Value.int .u64 z).toArray)]
theorem glbMaxLen : ∀ h V, Glb.ok h V → ∃ m arr ty fz, h[Tryz.l146_ren.g 1]? = some (.cells arr ty fz) ∧ arr[0]? = some (.int .i64 m) :=
 fun _ _ h => isInt_get (h (1, isInt .i64) (by simp)).2
theorem glbSyn : ∀ h V, Glb.ok h V → ∃ ev arr ty fz, h[Tryz.l172_ren.g 15]? = some (.cells arr ty fz) ∧ arr[0]? = some ev ∧ (ev = .nilIface ∨ ∃ te pe, ev = .iface te pe) :=
 fun _ _ h => isErr_get (h (6, isErr) (by simp)).2
theorem glbRng : ∀ h V, Glb.ok h V → ∃ ev arr ty fz, h[Tryz.l172_ren.g 16]? = some (.cells arr ty fz) ∧ arr[0]? = some ev ∧ (ev = .nilIface ∨ ∃ te pe, ev = .iface te pe) :=
 fun _ _ h => isErr_get (h (7, isErr) (by simp)).2
theorem glbPow : ∀ h V, Glb.ok h V → ∃ ty fz, h[0]? = some (.cells (Lib.pow10Tab.map fun z => Value.int .u64 z).toArray ty fz) :=
 fun _ _ h => isArr_get (h (0, isArr (Lib.pow10Tab.map fun z => Value.int .u64 z).toArray) (by simp)).2
abbrev tyR : T := .pair .str (.pair (.int .i64) (.pair (.int .i64) (.pair .str .unit)))
abbrev tyRf : T := .lst false tyR
abbrev tyRt : T := .lst true tyR
abbrev tyZf : T := .pair .str (.pair (.int .i64) (.pair tyRf .unit))
abbrev tyZt : T := .pair .str (.pair (.int .i64) (.pair tyRt .unit))
def tysC : List (TypeId × T × Nat) := [(3, (.int .i64), 0), (4, .bool, 0), (5, (.int .u8), 0), (9, .str, 0), (22, (.lst true tyZt), 48), (24, (.pair (.lst true tyZt) .unit), 0), (25, tyRt, 48), (27, tyZt, 0), (30, (.lst true tyZt), 48), (32, (.pair (.lst true tyZt) .unit), 0), (36, tyRt, 48), (38, tyZt, 0), (45, (.lst true (.int .u8)), 1), (48, (.lst true .str), 16), (81, (.int .u64), 0), (83, (.pair (.lst true (.int .u8)) (.pair (.int .i64) (.pair (.int .u64) .unit))), 0), (91, tyR, 0), (93, tyR, 0), (115, (.lst true (.pair (.int .i64) (.pair tyR .unit))), 56), (128, (.int .u64), 0), (136, (.pair (.int .i64) (.pair tyR .unit)), 0), (140, (.lst true (.int .i64)), 8), (185, .err, 0)]
theorem envC : ∀ sig n fx fr, EnvOk Tryz.prog ⟨tyOf tysC, ebOf tysC, sig, n, fx, fr⟩ := by
 refine EnvOk.ofL (fun sig n fx fr t ht => ?_) (by kernel_rfl)
 simp only [tysC, List.map_cons, List.map_nil, List.mem_cons] at ht
 rcases ht with rfl | ht
 ·exact ⟨Tryz.underlying3, rfl, by kernel_rfl, by kernel_rfl⟩
 rcases ht with rfl | ht
 ·exact ⟨Tryz.underlying4, rfl, by kernel_rfl, by kernel_rfl⟩
 rcases ht with rfl | ht
 ·exact ⟨Tryz.underlying5, rfl, by kernel_rfl, by kernel_rfl⟩
 rcases ht with rfl | ht
 ·exact ⟨Tryz.underlying9, rfl, by kernel_rfl, by kernel_rfl⟩
 rcases ht with rfl | ht
 ·exact ⟨⟨rfl, _, Tryz.underlying22, rfl, rfl, by kernel_rfl⟩, rfl, by kernel_rfl, by kernel_rfl⟩
 rcases ht with rfl | ht
 ·exact ⟨⟨_, Tryz.underlying24, rfl, rfl, rfl, trivial⟩, rfl, by kernel_rfl, by kernel_rfl⟩
 rcases ht with rfl | ht
 ·exact ⟨⟨rfl, _, Tryz.underlying25, rfl, rfl, by kernel_rfl⟩, rfl, by kernel_rfl, by kernel_rfl⟩
 rcases ht with rfl | ht
 ·exact ⟨⟨_, Tryz.underlying27, rfl, rfl, rfl, rfl, rfl, rfl, rfl, rfl, rfl, trivial⟩, rfl, by kernel_rfl, by kernel_rfl⟩
 rcases ht with rfl | ht
 ·exact ⟨⟨rfl, _, Tryz.underlying30, rfl, rfl, by kernel_rfl⟩, rfl, by kernel_rfl, by kernel_rfl⟩
 rcases ht with rfl | ht
 ·exact ⟨⟨_, Tryz.underlying32, rfl, rfl, rfl, trivial⟩, rfl, by kernel_rfl, by kernel_rfl⟩
 rcases ht with rfl | ht
 ·exact ⟨⟨rfl, _, Tryz.underlying36, rfl, rfl, by kernel_rfl⟩, rfl, by kernel_rfl, by kernel_rfl⟩
 rcases ht with rfl | ht
 ·exact ⟨⟨_, Tryz.underlying38, rfl, rfl, rfl, rfl, rfl, rfl, rfl, rfl, rfl, trivial⟩, rfl, by kernel_rfl, by kernel_rfl⟩
 rcases ht with rfl | ht
 ·exact ⟨⟨rfl, _, Tryz.underlying45, rfl, rfl, by kernel_rfl⟩, rfl, by kernel_rfl, by kernel_rfl⟩
 rcases ht with rfl | ht
 ·exact ⟨⟨rfl, _, Tryz.underlying48, rfl, rfl, by kernel_rfl⟩, rfl, by kernel_rfl, by kernel_rfl⟩
 rcases ht with rfl | ht
 ·exact ⟨Tryz.underlying81, rfl, by kernel_rfl, by kernel_rfl⟩
 rcases ht with rfl | ht
 ·exact ⟨⟨_, Tryz.underlying83, rfl, rfl, rfl, rfl, rfl, rfl, rfl, rfl, rfl, trivial⟩, rfl, by kernel_rfl, by kernel_rfl⟩
 rcases ht with rfl | ht
 ·exact ⟨⟨_, Tryz.underlying91, rfl, rfl, rfl, rfl, rfl, rfl, rfl, rfl, rfl, rfl, rfl, rfl, trivial⟩, rfl, by kernel_rfl, by kernel_rfl⟩
 rcases ht with rfl | ht
 ·exact ⟨⟨_, Tryz.underlying93, rfl, rfl, rfl, rfl, rfl, rfl, rfl, rfl, rfl, rfl, rfl, rfl, trivial⟩, rfl, by kernel_rfl, by kernel_rfl⟩
 rcases ht with rfl | ht
 ·exact ⟨⟨rfl, _, Tryz.underlying115, rfl, rfl, by kernel_rfl⟩, rfl, by kernel_rfl, by kernel_rfl⟩
 rcases ht with rfl | ht
 ·exact ⟨Tryz.underlying128, rfl, by kernel_rfl, by kernel_rfl⟩
 rcases ht with rfl | ht
 ·exact ⟨⟨_, Tryz.underlying136, rfl, rfl, rfl, rfl, rfl, rfl, trivial⟩, rfl, by kernel_rfl, by kernel_rfl⟩
 rcases ht with rfl | ht
 ·exact ⟨⟨rfl, _, Tryz.underlying140, rfl, rfl, by kernel_rfl⟩, rfl, by kernel_rfl, by kernel_rfl⟩
 rcases ht with rfl | ht
 ·exact ⟨⟨_, Tryz.underlying185⟩, rfl, by kernel_rfl, by kernel_rfl⟩
 cases ht
def h_spec_l1In : List (Nat × Hint) := [(3, .join [(0, ⟨[], [(6, 0, .bool)]⟩)])]
noncomputable def e_spec_l1In : Ent := mkE tysC 62 [] h_spec_l1In Tryz.f62 [(.vw, (.int .i64)), (.vw, (.int .i64)), (.vw, (.int .i64))] true .bool
theorem ok_spec_l1In : e_spec_l1In.Ok Tryz.prog := mkE_ok envC ok_nil Tryz.func62 (by decide +kernel) (by kernel_rfl)
def h_spec_l1Split : List (Nat × Hint) := [(122, .loop ⟨[0, 1], [(5, 0, (.lst true .str)), (6, 0, (.int .i64)), (7, 0, (.int .i64))]⟩ [(2, ⟨[0], [(5, 0, (.lst true .str)), (6, 0, (.int .i64))]⟩)]), (489, .join [(0, ⟨[0, 1, 7], [(5, 0, (.lst true .str)), (6, 0, (.int .i64))]⟩)])]
noncomputable def e_spec_l1Split : Ent := mkE tysC 101 [] h_spec_l1Split Tryz.f101 [(.vw, .str), (.vw, (.int .u8))] true (.lst true .str)
theorem ok_spec_l1Split : e_spec_l1Split.Ok Tryz.prog := mkE_ok envC ok_nil Tryz.func101 (by decide +kernel) (by kernel_rfl)
def h_spec_l1Label : List (Nat × Hint) := [(58, .loop ⟨[0], [(3, 0, (.int .i64))]⟩ [(1, ⟨[2], []⟩), (2, ⟨[0], []⟩)]), (1865, .join [(0, ⟨[0, 3], [(38, 0, .bool)]⟩)])]
noncomputable def e_spec_l1Label : Ent := mkE tysC 102 [e_spec_l1In] h_spec_l1Label Tryz.f102 [(.vw, .str)] true .bool
theorem ok_spec_l1Label : e_spec_l1Label.Ok Tryz.prog := mkE_ok envC (ok_cons ok_spec_l1In ok_nil) Tryz.func102 (by decide +kernel) (by kernel_rfl)
def h_spec_l1Labels : List (Nat × Hint) := [(31, .join [(0, ⟨[], [(2, 0, (.lst true .str)), (3, 0, .bool)]⟩)]), (122, .loop ⟨[0, 4, 11, 12], [(13, 0, (.int .i64))]⟩ [(1, ⟨[2, 3], []⟩), (2, ⟨[0, 4], []⟩)])]
noncomputable def e_spec_l1Labels : Ent := mkE tysC 65 [e_spec_l1Split, e_spec_l1Label] h_spec_l1Labels Tryz.f65 [(.vw, .str)] false (.pair (.lst true .str) (.pair .bool .unit))
theorem ok_spec_l1Labels : e_spec_l1Labels.Ok Tryz.prog := mkE_ok envC (ok_cons ok_spec_l1Split (ok_cons ok_spec_l1Label ok_nil)) Tryz.func65 (by decide +kernel) (by kernel_rfl)
def h_spec_l6Apex : List (Nat × Hint) := [(58, .loop ⟨[3, 12, 13], [(4, 0, .bool), (14, 0, (.int .i64))]⟩ [(2, ⟨[], [(4, 0, .bool)]⟩)]), (467, .join [(0, ⟨[3, 12, 13, 14], [(4, 0, .bool)]⟩)])]
noncomputable def e_spec_l6Apex : Ent := mkE tysC 97 [e_spec_l1Labels] h_spec_l6Apex Tryz.f97 [(.vw, .str)] true .bool
theorem ok_spec_l6Apex : e_spec_l6Apex.Ok Tryz.prog := mkE_ok envC (ok_cons ok_spec_l1Labels ok_nil) Tryz.func97 (by decide +kernel) (by kernel_rfl)
def h_spec_l1Int : List (Nat × Hint) := [(122, .loop ⟨[0], [(3, 0, (.int .i64)), (4, 0, (.int .i64))]⟩ [(1, ⟨[], [(2, 0, (.int .i64))]⟩), (2, ⟨[], [(3, 0, (.int .i64))]⟩)]), (3912, .join [(0, ⟨[0, 3, 4], [(34, 0, .bool)]⟩)]), (6, .join [(0, ⟨[0], [(18, 0, .bool)]⟩)])]
noncomputable def e_spec_l1Int : Ent := mkE tysC 157 [e_spec_l1In] h_spec_l1Int Tryz.f157 [(.vw, .str)] true (.int .i64)
theorem ok_spec_l1Int : e_spec_l1Int.Ok Tryz.prog := mkE_ok envC (ok_cons ok_spec_l1In ok_nil) Tryz.func157 (by decide +kernel) (by kernel_rfl)
def h_spec_l3Number : List (Nat × Hint) := [(58, .loop ⟨[], [(0, 0, (.int .i64)), (5, 0, (.lst true (.int .u8))), (6, 0, (.int .i64))]⟩ [(2, ⟨[], [(5, 0, (.lst true (.int .u8)))]⟩)])]
noncomputable def e_spec_l3Number : Ent := mkE tysC 158 [] h_spec_l3Number Tryz.f158 [(.vw, (.int .i64)), (.vw, (.int .i64))] true .str
theorem ok_spec_l3Number : e_spec_l3Number.Ok Tryz.prog := mkE_ok envC ok_nil Tryz.func158 (by decide +kernel) (by kernel_rfl)
def h_spec_l3Target : List (Nat × Hint) := [(15, .join [(0, ⟨[], [(2, 0, .bool)]⟩)]), (58, .loop ⟨[0, 3, 12, 13], [(4, 0, .bool), (14, 0, (.int .i64))]⟩ [(2, ⟨[0], [(4, 0, .bool)]⟩)]), (467, .join [(0, ⟨[0, 3, 12, 13, 14], [(4, 0, .bool)]⟩)])]
noncomputable def e_spec_l3Target : Ent := mkE tysC 159 [e_spec_l1Labels] h_spec_l3Target Tryz.f159 [(.vw, .str)] true .bool
theorem ok_spec_l3Target : e_spec_l3Target.Ok Tryz.prog := mkE_ok envC (ok_cons ok_spec_l1Labels ok_nil) Tryz.func159 (by decide +kernel) (by kernel_rfl)
def h_spec_l2Bytes : List (Nat × Hint) := [(122, .loop ⟨[3, 13, 14], [(5, 0, .str), (15, 0, (.int .i64))]⟩ [(2, ⟨[], [(5, 0, .str)]⟩)])]
noncomputable def e_spec_l2Bytes : Ent := mkE tysC 160 [e_spec_l1Labels] h_spec_l2Bytes Tryz.f160 [(.vw, .str)] true .str
theorem ok_spec_l2Bytes : e_spec_l2Bytes.Ok Tryz.prog := mkE_ok envC (ok_cons ok_spec_l1Labels ok_nil) Tryz.func160 (by decide +kernel) (by kernel_rfl)
def h_spec_l3Bytes : List (Nat × Hint) := [(221170, .loop ⟨[1], [(13, 0, (.int .i64))]⟩ [(1, ⟨[], [(4, 0, .str), (5, 0, .bool)]⟩), (5, ⟨[1], []⟩)]), (3538724, .join [(0, ⟨[1, 13], [(104, 0, .bool)]⟩)]), (27642, .join [(0, ⟨[12], [(76, 0, .bool)]⟩)]), (107, .join [(0, ⟨[1, 14], [(39, 0, .bool)]⟩)]), (3418, .loop ⟨[7, 19, 20], [(6, 0, .str), (21, 0, (.int .i64))]⟩ [(1, ⟨[4, 5], []⟩), (3, ⟨[7], [(6, 0, .str)]⟩)])]
noncomputable def e_spec_l3Bytes : Ent := mkE tysC 143 [e_spec_l1Split, e_spec_l1Int, e_spec_l1In, e_spec_l3Number, e_spec_l3Target, e_spec_l2Bytes] h_spec_l3Bytes Tryz.f143 [(.vw, (.int .i64)), (.vw, .str)] false (.pair .str (.pair .bool .unit))
theorem ok_spec_l3Bytes : e_spec_l3Bytes.Ok Tryz.prog := mkE_ok envC (ok_cons ok_spec_l1Split (ok_cons ok_spec_l1Int (ok_cons ok_spec_l1In (ok_cons ok_spec_l3Number (ok_cons ok_spec_l3Target (ok_cons ok_spec_l2Bytes ok_nil)))))) Tryz.func143 (by decide +kernel) (by kernel_rfl)
def h_spec_GoodName : List (Nat × Hint) := []
noncomputable def e_spec_GoodName : Ent := mkE tysC 49 [e_spec_l1Labels] h_spec_GoodName Tryz.f49 [(.vw, .str)] true .bool
theorem ok_spec_GoodName : e_spec_GoodName.Ok Tryz.prog := mkE_ok envC (ok_cons ok_spec_l1Labels ok_nil) Tryz.func49 (by decide +kernel) (by kernel_rfl)
def h_spec_GoodRecord : List (Nat × Hint) := [(7, .join [(0, ⟨[], [(2, 0, .bool)]⟩)])]
noncomputable def e_spec_GoodRecord : Ent := mkE tysC 123 [e_spec_l3Bytes, e_spec_GoodName, e_spec_l1In] h_spec_GoodRecord Tryz.f123 [(.vw, tyR)] true .bool
theorem ok_spec_GoodRecord : e_spec_GoodRecord.Ok Tryz.prog := mkE_ok envC (ok_cons ok_spec_l3Bytes (ok_cons ok_spec_GoodName (ok_cons ok_spec_l1In ok_nil))) Tryz.func123 (by decide +kernel) (by kernel_rfl)
def h_spec_l1Compare : List (Nat × Hint) := [(122, .loop ⟨[5, 7], [(9, 0, (.int .i64))]⟩ [(1, ⟨[], [(4, 0, (.int .i64))]⟩), (2, ⟨[5, 7], []⟩)]), (488, .join [(0, ⟨[5, 7, 9], [(31, 0, .bool)]⟩)])]
noncomputable def e_spec_l1Compare : Ent := mkE tysC 32 [e_spec_l1Labels] h_spec_l1Compare Tryz.f32 [(.vw, .str), (.vw, .str)] true (.int .i64)
theorem ok_spec_l1Compare : e_spec_l1Compare.Ok Tryz.prog := mkE_ok envC (ok_cons ok_spec_l1Labels ok_nil) Tryz.func32 (by decide +kernel) (by kernel_rfl)
def h_spec_l3Less : List (Nat × Hint) := []
noncomputable def e_spec_l3Less : Ent := mkE tysC 144 [] h_spec_l3Less Tryz.f144 [(.vw, .bool)] true (.int .i64)
theorem ok_spec_l3Less : e_spec_l3Less.Ok Tryz.prog := mkE_ok envC ok_nil Tryz.func144 (by decide +kernel) (by kernel_rfl)
def h_spec_l3Compare : List (Nat × Hint) := []
noncomputable def e_spec_l3Compare : Ent := mkE tysC 124 [e_spec_l1Compare, e_spec_l3Bytes, e_spec_l3Less] h_spec_l3Compare Tryz.f124 [(.vw, tyR), (.vw, tyR)] true (.int .i64)
theorem ok_spec_l3Compare : e_spec_l3Compare.Ok Tryz.prog := mkE_ok envC (ok_cons ok_spec_l1Compare (ok_cons ok_spec_l3Bytes (ok_cons ok_spec_l3Less ok_nil))) Tryz.func124 (by decide +kernel) (by kernel_rfl)
def h_spec_l6List : List (Nat × Hint) := [(26, .loop ⟨[0, 5, 6], [(7, 0, (.int .i64))]⟩ [(1, ⟨[2], []⟩), (2, ⟨[0], []⟩)]), (1689, .join [(0, ⟨[0, 5, 6, 7], [(28, 0, .bool)]⟩)])]
noncomputable def e_spec_l6List : Ent := mkE tysC 98 [e_spec_GoodRecord, e_spec_l3Compare] h_spec_l6List Tryz.f98 [(.vw, tyRf)] true .bool
theorem ok_spec_l6List : e_spec_l6List.Ok Tryz.prog := mkE_ok envC (ok_cons ok_spec_GoodRecord (ok_cons ok_spec_l3Compare ok_nil)) Tryz.func98 (by decide +kernel) (by kernel_rfl)
def h_spec_l1Below : List (Nat × Hint) := [(7, .join [(0, ⟨[], [(4, 0, .bool)]⟩)])]
noncomputable def e_spec_l1Below : Ent := mkE tysC 53 [] h_spec_l1Below Tryz.f53 [(.vw, .str), (.vw, .str)] true .bool
theorem ok_spec_l1Below : e_spec_l1Below.Ok Tryz.prog := mkE_ok envC ok_nil Tryz.func53 (by decide +kernel) (by kernel_rfl)
def h_spec_l6Has : List (Nat × Hint) := [(26, .loop ⟨[1, 2, 9, 10], [(11, 0, (.int .i64))]⟩ [(1, ⟨[], [(6, 0, .bool)]⟩), (2, ⟨[], []⟩)]), (1689, .join [(0, ⟨[1, 2, 9, 10, 11], [(24, 0, .bool)]⟩)])]
noncomputable def e_spec_l6Has : Ent := mkE tysC 113 [] h_spec_l6Has Tryz.f113 [(.vw, tyRf), (.vw, .str), (.vw, (.int .i64))] true .bool
theorem ok_spec_l6Has : e_spec_l6Has.Ok Tryz.prog := mkE_ok envC ok_nil Tryz.func113 (by decide +kernel) (by kernel_rfl)
def h_spec_l1Parent : List (Nat × Hint) := [(26, .loop ⟨[0], [(3, 0, (.int .i64))]⟩ [(1, ⟨[], [(2, 0, .str)]⟩), (2, ⟨[], []⟩)])]
noncomputable def e_spec_l1Parent : Ent := mkE tysC 114 [] h_spec_l1Parent Tryz.f114 [(.vw, .str)] true .str
theorem ok_spec_l1Parent : e_spec_l1Parent.Ok Tryz.prog := mkE_ok envC ok_nil Tryz.func114 (by decide +kernel) (by kernel_rfl)
def h_spec_l6Cut : List (Nat × Hint) := [(60, .loop ⟨[0, 1], [(2, 0, .str), (8, 0, .str), (9, 0, .bool)]⟩ [(2, ⟨[], [(8, 0, .str), (9, 0, .bool)]⟩)]), (482, .join [(0, ⟨[0, 1, 2], [(8, 0, .str), (9, 0, .bool)]⟩)]), (240, .join [(0, ⟨[0, 1, 2, 8, 9], [(17, 0, .bool)]⟩)])]
noncomputable def e_spec_l6Cut : Ent := mkE tysC 85 [e_spec_l1Below, e_spec_l6Has, e_spec_l1Parent] h_spec_l6Cut Tryz.f85 [(.vw, .str), (.vw, tyRf), (.vw, .str)] false (.pair .str (.pair .bool .unit))
theorem ok_spec_l6Cut : e_spec_l6Cut.Ok Tryz.prog := mkE_ok envC (ok_cons ok_spec_l1Below (ok_cons ok_spec_l6Has (ok_cons ok_spec_l1Parent ok_nil))) Tryz.func85 (by decide +kernel) (by kernel_rfl)
def h_spec_l6Rule : List (Nat × Hint) := [(2042, .loop ⟨[0, 1, 132, 133], [(134, 0, (.int .i64))]⟩ [(1, ⟨[], [(4, 0, (.int .i64))]⟩), (10, ⟨[], []⟩)]), (261427, .join [(0, ⟨[0, 1, 132, 133, 134], [(162, 0, .bool)]⟩)]), (506, .loop ⟨[0, 1, 97, 98], [(99, 0, (.int .i64))]⟩ [(1, ⟨[], [(4, 0, (.int .i64))]⟩), (6, ⟨[0, 1], []⟩)]), (129638, .loop ⟨[0, 1, 11, 97, 98, 99, 106, 107], [(108, 0, (.int .i64))]⟩ [(1, ⟨[], [(4, 0, (.int .i64))]⟩), (8, ⟨[0, 1, 97, 98, 99], []⟩)]), (8296857, .join [(0, ⟨[0, 1, 11, 97, 98, 99, 106, 107, 108], [(126, 0, .bool)]⟩)]), (250, .loop ⟨[0, 1, 43, 44], [(45, 0, (.int .i64))]⟩ [(1, ⟨[], [(4, 0, (.int .i64))]⟩), (4, ⟨[0, 1], []⟩)]), (16025, .join [(0, ⟨[0, 1, 43, 44, 45], [(95, 0, .bool)]⟩)]), (58, .loop ⟨[0, 1, 18, 19], [(5, 0, (.int .i64)), (20, 0, (.int .i64))]⟩ [(1, ⟨[], [(4, 0, (.int .i64))]⟩), (2, ⟨[0, 1], [(5, 0, (.int .i64))]⟩)]), (467, .join [(0, ⟨[0, 1, 18, 19, 20], [(5, 0, (.int .i64))]⟩), (1, ⟨[], [(4, 0, (.int .i64))]⟩)])]
noncomputable def e_spec_l6Rule : Ent := mkE tysC 99 [e_spec_l1Below, e_spec_l6Has, e_spec_l6Cut] h_spec_l6Rule Tryz.f99 [(.vw, .str), (.vw, tyRf)] true (.int .i64)
theorem ok_spec_l6Rule : e_spec_l6Rule.Ok Tryz.prog := mkE_ok envC (ok_cons ok_spec_l1Below (ok_cons ok_spec_l6Has (ok_cons ok_spec_l6Cut ok_nil))) Tryz.func99 (by decide +kernel) (by kernel_rfl)
def h_spec_RuleOf : List (Nat × Hint) := [(6, .join [(0, ⟨[0, 1], [(12, 0, .bool)]⟩)])]
noncomputable def e_spec_RuleOf : Ent := mkE tysC 63 [e_spec_l6Apex, e_spec_l6List, e_spec_l6Rule] h_spec_RuleOf Tryz.f63 [(.vw, .str), (.vw, tyRf)] true (.int .i64)
theorem ok_spec_RuleOf : e_spec_RuleOf.Ok Tryz.prog := mkE_ok envC (ok_cons ok_spec_l6Apex (ok_cons ok_spec_l6List (ok_cons ok_spec_l6Rule ok_nil))) Tryz.func63 (by decide +kernel) (by kernel_rfl)
def h_spec_l1Num : List (Nat × Hint) := []
noncomputable def z_spec_l1Num : Ent := ⟨100, [(.vw, (.int .i64))], true, .str, fun _ => none⟩
noncomputable def p_spec_l1Num : PE := (comp tysC [z_spec_l1Num] h_spec_l1Num Tryz.f100 [(.vw, (.int .i64))] true .str).getD .bot
noncomputable def f_rec_spec_l1Num : Nat → List D → Option D
 | 0 => fun _ => none
 | k + 1 => runPE [⟨100, [(.vw, (.int .i64))], true, .str, f_rec_spec_l1Num k⟩] p_spec_l1Num
noncomputable abbrev r_spec_l1Num (k : Nat) : Ent := ⟨100, [(.vw, (.int .i64))], true, .str, f_rec_spec_l1Num k⟩
theorem okr_spec_l1Num : ∀ k, (r_spec_l1Num k).Ok Tryz.prog
 | 0 => ⟨⟨Tryz.f100, Tryz.func100, by decide +kernel, by kernel_rfl⟩, fun _ _ _ h => by cases h⟩
 | k + 1 => Ent.ok_of (pe := p_spec_l1Num) (fn := Tryz.f100) (hs := h_spec_l1Num) envC (ok_cons (okr_spec_l1Num k) ok_nil) Tryz.func100 (by decide +kernel) (by kernel_rfl) rfl
noncomputable def e_spec_l1Num : Ent := r_spec_l1Num 40
theorem ok_spec_l1Num : e_spec_l1Num.Ok Tryz.prog := okr_spec_l1Num 40
def h_spec_l6Soa : List (Nat × Hint) := []
noncomputable def e_spec_l6Soa : Ent := mkE tysC 64 [e_spec_l1Num] h_spec_l6Soa Tryz.f64 [(.vw, tyZf)] true .str
theorem ok_spec_l6Soa : e_spec_l6Soa.Ok Tryz.prog := mkE_ok envC (ok_cons ok_spec_l1Num ok_nil) Tryz.func64 (by decide +kernel) (by kernel_rfl)
def h_spec_GoodZone : List (Nat × Hint) := [(58, .loop ⟨[1, 18, 19], [(20, 0, (.int .i64))]⟩ [(1, ⟨[], [(2, 0, .bool)]⟩), (2, ⟨[], []⟩)]), (3737, .join [(0, ⟨[1, 18, 19, 20], [(33, 0, .bool)]⟩)]), (6, .join [(0, ⟨[1], [(16, 0, .bool)]⟩)])]
noncomputable def e_spec_GoodZone : Ent := mkE tysC 31 [e_spec_l1In, e_spec_RuleOf, e_spec_l6Soa] h_spec_GoodZone Tryz.f31 [(.vw, tyZf)] true .bool
theorem ok_spec_GoodZone : e_spec_GoodZone.Ok Tryz.prog := mkE_ok envC (ok_cons ok_spec_l1In (ok_cons ok_spec_RuleOf (ok_cons ok_spec_l6Soa ok_nil))) Tryz.func31 (by decide +kernel) (by kernel_rfl)
def h_spec_GoodWorld : List (Nat × Hint) := [(58, .loop ⟨[1, 19, 20], [(21, 0, (.int .i64))]⟩ [(1, ⟨[], [(2, 0, .bool)]⟩), (2, ⟨[], []⟩)]), (3737, .join [(0, ⟨[1, 19, 20, 21], [(45, 0, .bool)]⟩)]), (6, .join [(0, ⟨[1], [(17, 0, .bool)]⟩)])]
noncomputable def e_spec_GoodWorld : Ent := mkE tysC 30 [e_spec_l1In, e_spec_GoodZone, e_spec_l1Compare] h_spec_GoodWorld Tryz.f30 [(.vw, (.pair (.lst false tyZf) .unit))] true .bool
theorem ok_spec_GoodWorld : e_spec_GoodWorld.Ok Tryz.prog := mkE_ok envC (ok_cons ok_spec_l1In (ok_cons ok_spec_GoodZone (ok_cons ok_spec_l1Compare ok_nil))) Tryz.func30 (by decide +kernel) (by kernel_rfl)
def h_spec_l6Own : List (Nat × Hint) := []
noncomputable def e_spec_l6Own : Ent := mkE tysC 33 [] h_spec_l6Own Tryz.f33 [(.vw, tyZf)] true tyZt
theorem ok_spec_l6Own : e_spec_l6Own.Ok Tryz.prog := mkE_ok envC ok_nil Tryz.func33 (by decide +kernel) (by kernel_rfl)
def h_spec_AddZone : List (Nat × Hint) := [(63, .join [(0, ⟨[4], [(6, 2, (.pair (.lst true tyZt) .unit))]⟩)]), (250, .loop ⟨[3, 4, 22, 23], [(6, 2, (.pair (.lst true tyZt) .unit)), (7, 0, .bool), (24, 0, (.int .i64))]⟩ [(1, ⟨[], [(4, 2, (.pair (.lst true tyZt) .unit)), (5, 0, .bool)]⟩), (2, ⟨[3, 4], [(6, 2, (.pair (.lst true tyZt) .unit)), (7, 0, .bool)]⟩)]), (16025, .join [(0, ⟨[3, 4, 9, 22, 23, 24], [(6, 2, (.pair (.lst true tyZt) .unit)), (7, 0, .bool)]⟩), (1, ⟨[], [(4, 2, (.pair (.lst true tyZt) .unit)), (5, 0, .bool)]⟩)]), (256407, .join [(0, ⟨[3, 4, 6, 7, 9, 22, 23, 24], [(41, 0, .bool)]⟩)]), (6, .join [(0, ⟨[2, 3, 4], [(18, 0, .bool)]⟩)])]
noncomputable def e_spec_AddZone : Ent := mkE tysC 7 [e_spec_GoodWorld, e_spec_GoodZone, e_spec_l1Compare, e_spec_l6Own] h_spec_AddZone Tryz.f7 [(.vw, (.pair (.lst false tyZf) .unit)), (.vw, tyZf)] false (.pair (.pair (.lst true tyZt) .unit) (.pair .bool .unit))
theorem ok_spec_AddZone : e_spec_AddZone.Ok Tryz.prog := mkE_ok envC (ok_cons ok_spec_GoodWorld (ok_cons ok_spec_GoodZone (ok_cons ok_spec_l1Compare (ok_cons ok_spec_l6Own ok_nil)))) Tryz.func7 (by decide +kernel) (by kernel_rfl)
def h_impl_within : List (Nat × Hint) := [(3, .join [(0, ⟨[], [(6, 0, .bool)]⟩)])]
noncomputable def e_impl_within : Ent := mkE tysC 59 [] h_impl_within Tryz.f59 [(.vw, (.int .i64)), (.vw, (.int .i64)), (.vw, (.int .i64))] true .bool
theorem ok_impl_within : e_impl_within.Ok Tryz.prog := mkE_ok envC ok_nil Tryz.func59 (by decide +kernel) (by kernel_rfl)
def h_impl_isCounter : List (Nat × Hint) := []
noncomputable def e_impl_isCounter : Ent := mkE tysC 67 [e_impl_within] h_impl_isCounter Tryz.f67 [(.vw, (.int .i64))] true .bool
theorem ok_impl_isCounter : e_impl_isCounter.Ok Tryz.prog := mkE_ok envC (ok_cons ok_impl_within ok_nil) Tryz.func67 (by decide +kernel) (by kernel_rfl)
noncomputable abbrev e_strings_Split : Ent := splitE 109
theorem ok_strings_Split : e_strings_Split.Ok Tryz.prog := splitE_ok Tryz.l146 (by kernel_rfl) Tryz.func109 (by decide +kernel) rfl glbMaxLen
def h_impl_labelsOf : List (Nat × Hint) := []
noncomputable def e_impl_labelsOf : Ent := mkE tysC 80 [e_strings_Split] h_impl_labelsOf Tryz.f80 [(.vw, .str)] true (.lst true .str)
theorem ok_impl_labelsOf : e_impl_labelsOf.Ok Tryz.prog := mkE_ok envC (ok_cons ok_strings_Split ok_nil) Tryz.func80 (by decide +kernel) (by kernel_rfl)
noncomputable abbrev e_strings_Trim : Ent := trimE 111
theorem ok_strings_Trim : e_strings_Trim.Ok Tryz.prog := trimE_ok Tryz.l160 (by kernel_rfl) (by kernel_rfl) Tryz.func111 (by decide +kernel) rfl
def h_impl_isLabel : List (Nat × Hint) := [(7, .join [(0, ⟨[], [(2, 0, .bool)]⟩)])]
noncomputable def e_impl_isLabel : Ent := mkE tysC 83 [e_impl_within, e_strings_Trim] h_impl_isLabel Tryz.f83 [(.vw, .str)] true .bool
theorem ok_impl_isLabel : e_impl_isLabel.Ok Tryz.prog := mkE_ok envC (ok_cons ok_impl_within (ok_cons ok_strings_Trim ok_nil)) Tryz.func83 (by decide +kernel) (by kernel_rfl)
def h_impl_GoodName_1 : List (Nat × Hint) := []
noncomputable def e_impl_GoodName_1 : Ent := mkE tysC 82 [e_impl_isLabel] h_impl_GoodName_1 Tryz.f82 [(.vw, .str)] true .bool
theorem ok_impl_GoodName_1 : e_impl_GoodName_1.Ok Tryz.prog := mkE_ok envC (ok_cons ok_impl_isLabel ok_nil) Tryz.func82 (by decide +kernel) (by kernel_rfl)
def h_slices_IndexFunc_string_string__impl_GoodName_1 : List (Nat × Hint) := [(26, .loop ⟨[0, 1, 7], [(8, 0, (.int .i64))]⟩ [(1, ⟨[], [(4, 0, (.int .i64))]⟩), (2, ⟨[], []⟩)])]
noncomputable def e_slices_IndexFunc_string_string__impl_GoodName_1 : Ent := mkE tysC 110 [e_impl_GoodName_1] h_slices_IndexFunc_string_string__impl_GoodName_1 Tryz.f110 [(.vw, (.lst false .str)), (.vw, (.fn 82 .unit))] true (.int .i64)
theorem ok_slices_IndexFunc_string_string__impl_GoodName_1 : e_slices_IndexFunc_string_string__impl_GoodName_1.Ok Tryz.prog := mkE_ok envC (ok_cons ok_impl_GoodName_1 ok_nil) Tryz.func110 (by decide +kernel) (by kernel_rfl)
def h_slices_ContainsFunc_string_string__impl_GoodName_1 : List (Nat × Hint) := []
noncomputable def e_slices_ContainsFunc_string_string__impl_GoodName_1 : Ent := mkE tysC 81 [e_slices_IndexFunc_string_string__impl_GoodName_1] h_slices_ContainsFunc_string_string__impl_GoodName_1 Tryz.f81 [(.vw, (.lst false .str)), (.vw, (.fn 82 .unit))] true .bool
theorem ok_slices_ContainsFunc_string_string__impl_GoodName_1 : e_slices_ContainsFunc_string_string__impl_GoodName_1.Ok Tryz.prog := mkE_ok envC (ok_cons ok_slices_IndexFunc_string_string__impl_GoodName_1 ok_nil) Tryz.func81 (by decide +kernel) (by kernel_rfl)
def h_impl_GoodName : List (Nat × Hint) := [(15, .join [(0, ⟨[], [(2, 0, .bool)]⟩)])]
noncomputable def e_impl_GoodName : Ent := mkE tysC 47 [e_impl_labelsOf, e_slices_ContainsFunc_string_string__impl_GoodName_1] h_impl_GoodName Tryz.f47 [(.vw, .str)] true .bool
theorem ok_impl_GoodName : e_impl_GoodName.Ok Tryz.prog := mkE_ok envC (ok_cons ok_impl_labelsOf (ok_cons ok_slices_ContainsFunc_string_string__impl_GoodName_1 ok_nil)) Tryz.func47 (by decide +kernel) (by kernel_rfl)
noncomputable abbrev e_strings_Contains : Ent := containsE 145
theorem ok_strings_Contains : e_strings_Contains.Ok Tryz.prog := containsE_ok Tryz.l144 (by kernel_rfl) Tryz.func145 (by decide +kernel) rfl glbMaxLen
def h_impl_isApex : List (Nat × Hint) := [(3, .join [(0, ⟨[], [(2, 0, .bool)]⟩)])]
noncomputable def e_impl_isApex : Ent := mkE tysC 125 [e_impl_GoodName, e_strings_Contains] h_impl_isApex Tryz.f125 [(.vw, .str)] true .bool
theorem ok_impl_isApex : e_impl_isApex.Ok Tryz.prog := mkE_ok envC (ok_cons ok_impl_GoodName (ok_cons ok_strings_Contains ok_nil)) Tryz.func125 (by decide +kernel) (by kernel_rfl)
noncomputable abbrev e_strconv_Atoi : Ent := atoiE 196
theorem ok_strconv_Atoi : e_strconv_Atoi.Ok Tryz.prog := atoiE_ok Tryz.l172 (by kernel_rfl) Tryz.func196 (by decide +kernel) rfl glbSyn glbRng
noncomputable abbrev e_strconv_Itoa : Ent := itoaE 107
theorem ok_strconv_Itoa : e_strconv_Itoa.Ok Tryz.prog := itoaE_ok Tryz.l171 (by kernel_rfl) Tryz.func107 (by decide +kernel) rfl (by kernel_rfl) glbPow
def h_impl_numberIn : List (Nat × Hint) := [(7, .join [(0, ⟨[], [(4, 0, (.int .i64)), (5, 0, .bool)]⟩)])]
noncomputable def e_impl_numberIn : Ent := mkE tysC 177 [e_strconv_Atoi, e_impl_within, e_strconv_Itoa] h_impl_numberIn Tryz.f177 [(.vw, .str), (.vw, (.int .i64))] false (.pair (.int .i64) (.pair .bool .unit))
theorem ok_impl_numberIn : e_impl_numberIn.Ok Tryz.prog := mkE_ok envC (ok_cons ok_strconv_Atoi (ok_cons ok_impl_within (ok_cons ok_strconv_Itoa ok_nil))) Tryz.func177 (by decide +kernel) (by kernel_rfl)
def h_impl_big : List (Nat × Hint) := [(58, .loop ⟨[0], [(5, 0, (.lst true (.int .u8))), (6, 0, (.int .i64))]⟩ [(2, ⟨[], [(5, 0, (.lst true (.int .u8)))]⟩)])]
noncomputable def e_impl_big : Ent := mkE tysC 178 [] h_impl_big Tryz.f178 [(.vw, (.int .i64)), (.vw, (.int .i64))] true .str
theorem ok_impl_big : e_impl_big.Ok Tryz.prog := mkE_ok envC ok_nil Tryz.func178 (by decide +kernel) (by kernel_rfl)
def h_impl_isTarget : List (Nat × Hint) := [(3, .join [(0, ⟨[], [(2, 0, .bool)]⟩)])]
noncomputable def e_impl_isTarget : Ent := mkE tysC 179 [e_impl_GoodName, e_strings_Contains] h_impl_isTarget Tryz.f179 [(.vw, .str)] true .bool
theorem ok_impl_isTarget : e_impl_isTarget.Ok Tryz.prog := mkE_ok envC (ok_cons ok_impl_GoodName (ok_cons ok_strings_Contains ok_nil)) Tryz.func179 (by decide +kernel) (by kernel_rfl)
def h_impl_labelBytes : List (Nat × Hint) := [(58, .loop ⟨[7, 8], [(3, 0, .str), (9, 0, (.int .i64))]⟩ [(2, ⟨[], [(3, 0, .str)]⟩)])]
noncomputable def e_impl_labelBytes : Ent := mkE tysC 180 [e_impl_labelsOf] h_impl_labelBytes Tryz.f180 [(.vw, .str)] true .str
theorem ok_impl_labelBytes : e_impl_labelBytes.Ok Tryz.prog := mkE_ok envC (ok_cons ok_impl_labelsOf ok_nil) Tryz.func180 (by decide +kernel) (by kernel_rfl)
noncomputable abbrev e_strings_Cut : Ent := cutE 140
theorem ok_strings_Cut : e_strings_Cut.Ok Tryz.prog := cutE_ok Tryz.l145 (by kernel_rfl) Tryz.func140 (by decide +kernel) rfl glbMaxLen
def h_impl_DataBytes_1 : List (Nat × Hint) := [(3, .join [(0, ⟨[], [(2, 0, .bool)]⟩)])]
noncomputable def e_impl_DataBytes_1 : Ent := mkE tysC 182 [] h_impl_DataBytes_1 Tryz.f182 [(.vw, (.int .u8))] true .bool
theorem ok_impl_DataBytes_1 : e_impl_DataBytes_1.Ok Tryz.prog := mkE_ok envC ok_nil Tryz.func182 (by decide +kernel) (by kernel_rfl)
def h_slices_IndexFunc_byte_byte__impl_DataBytes_1 : List (Nat × Hint) := [(26, .loop ⟨[0, 1, 7], [(8, 0, (.int .i64))]⟩ [(1, ⟨[], [(4, 0, (.int .i64))]⟩), (2, ⟨[], []⟩)])]
noncomputable def e_slices_IndexFunc_byte_byte__impl_DataBytes_1 : Ent := mkE tysC 197 [e_impl_DataBytes_1] h_slices_IndexFunc_byte_byte__impl_DataBytes_1 Tryz.f197 [(.vw, (.lst false (.int .u8))), (.vw, (.fn 182 .unit))] true (.int .i64)
theorem ok_slices_IndexFunc_byte_byte__impl_DataBytes_1 : e_slices_IndexFunc_byte_byte__impl_DataBytes_1.Ok Tryz.prog := mkE_ok envC (ok_cons ok_impl_DataBytes_1 ok_nil) Tryz.func197 (by decide +kernel) (by kernel_rfl)
def h_slices_ContainsFunc_byte_byte__impl_DataBytes_1 : List (Nat × Hint) := []
noncomputable def e_slices_ContainsFunc_byte_byte__impl_DataBytes_1 : Ent := mkE tysC 181 [e_slices_IndexFunc_byte_byte__impl_DataBytes_1] h_slices_ContainsFunc_byte_byte__impl_DataBytes_1 Tryz.f181 [(.vw, (.lst false (.int .u8))), (.vw, (.fn 182 .unit))] true .bool
theorem ok_slices_ContainsFunc_byte_byte__impl_DataBytes_1 : e_slices_ContainsFunc_byte_byte__impl_DataBytes_1.Ok Tryz.prog := mkE_ok envC (ok_cons ok_slices_IndexFunc_byte_byte__impl_DataBytes_1 ok_nil) Tryz.func181 (by decide +kernel) (by kernel_rfl)
def h_impl_DataBytes : List (Nat × Hint) := [(55292, .join [(0, ⟨[1], [(103, 0, .bool)]⟩)]), (55286, .join [(0, ⟨[15, 17], [(87, 0, .bool)]⟩)]), (107, .join [(0, ⟨[1, 19], [(48, 0, .bool)]⟩)]), (3418, .loop ⟨[7, 24, 25], [(6, 0, .str), (26, 0, (.int .i64))]⟩ [(1, ⟨[4, 5], []⟩), (3, ⟨[], [(6, 0, .str)]⟩)]), (875110, .join [(0, ⟨[6, 7, 10, 24, 25, 26], [(41, 0, .bool)]⟩)])]
noncomputable def e_impl_DataBytes : Ent := mkE tysC 161 [e_strings_Split, e_impl_numberIn, e_impl_big, e_impl_isTarget, e_impl_labelBytes, e_strings_Cut, e_slices_ContainsFunc_byte_byte__impl_DataBytes_1] h_impl_DataBytes Tryz.f161 [(.vw, (.int .i64)), (.vw, .str)] false (.pair .str (.pair .bool .unit))
theorem ok_impl_DataBytes : e_impl_DataBytes.Ok Tryz.prog := mkE_ok envC (ok_cons ok_strings_Split (ok_cons ok_impl_numberIn (ok_cons ok_impl_big (ok_cons ok_impl_isTarget (ok_cons ok_impl_labelBytes (ok_cons ok_strings_Cut (ok_cons ok_slices_ContainsFunc_byte_byte__impl_DataBytes_1 ok_nil))))))) Tryz.func161 (by decide +kernel) (by kernel_rfl)
def h_impl_GoodRecord : List (Nat × Hint) := [(6, .join [(0, ⟨[1], [(20, 0, .bool)]⟩)])]
noncomputable def e_impl_GoodRecord : Ent := mkE tysC 146 [e_impl_GoodName, e_impl_within, e_impl_DataBytes] h_impl_GoodRecord Tryz.f146 [(.vw, tyR)] true .bool
theorem ok_impl_GoodRecord : e_impl_GoodRecord.Ok Tryz.prog := mkE_ok envC (ok_cons ok_impl_GoodName (ok_cons ok_impl_within (ok_cons ok_impl_DataBytes ok_nil))) Tryz.func146 (by decide +kernel) (by kernel_rfl)
def h_slices_Reverse_string_string : List (Nat × Hint) := [(6, .loop ⟨[], [(0, 0, (.lst true .str)), (2, 0, (.int .i64)), (3, 0, (.int .i64))]⟩ [(2, ⟨[], [(0, 0, (.lst true .str))]⟩)])]
noncomputable def e_slices_Reverse_string_string : Ent := mkE tysC 95 [] h_slices_Reverse_string_string Tryz.f95 [(.io, (.lst true .str))] false .unit
theorem ok_slices_Reverse_string_string : e_slices_Reverse_string_string.Ok Tryz.prog := mkE_ok envC ok_nil Tryz.func95 (by decide +kernel) (by kernel_rfl)
def h_cmp_isNaN_string : List (Nat × Hint) := []
noncomputable def e_cmp_isNaN_string : Ent := mkE tysC 142 [] h_cmp_isNaN_string Tryz.f142 [(.vw, .str)] true .bool
theorem ok_cmp_isNaN_string : e_cmp_isNaN_string.Ok Tryz.prog := mkE_ok envC ok_nil Tryz.func142 (by decide +kernel) (by kernel_rfl)
def h_cmp_Compare_string : List (Nat × Hint) := []
noncomputable def e_cmp_Compare_string : Ent := mkE tysC 122 [e_cmp_isNaN_string] h_cmp_Compare_string Tryz.f122 [(.vw, .str), (.vw, .str)] true (.int .i64)
theorem ok_cmp_Compare_string : e_cmp_Compare_string.Ok Tryz.prog := mkE_ok envC (ok_cons ok_cmp_isNaN_string ok_nil) Tryz.func122 (by decide +kernel) (by kernel_rfl)
def h_slices_Compare_string_string : List (Nat × Hint) := [(26, .loop ⟨[0, 1, 9, 10], [(11, 0, (.int .i64))]⟩ [(1, ⟨[], [(4, 0, (.int .i64))]⟩), (2, ⟨[0, 1], []⟩)])]
noncomputable def e_slices_Compare_string_string : Ent := mkE tysC 96 [e_cmp_Compare_string] h_slices_Compare_string_string Tryz.f96 [(.vw, (.lst false .str)), (.vw, (.lst false .str))] true (.int .i64)
theorem ok_slices_Compare_string_string : e_slices_Compare_string_string.Ok Tryz.prog := mkE_ok envC (ok_cons ok_cmp_Compare_string ok_nil) Tryz.func96 (by decide +kernel) (by kernel_rfl)
def h_impl_compareNames : List (Nat × Hint) := []
noncomputable def e_impl_compareNames : Ent := mkE tysC 60 [e_impl_labelsOf, e_slices_Reverse_string_string, e_slices_Compare_string_string] h_impl_compareNames Tryz.f60 [(.vw, .str), (.vw, .str)] true (.int .i64)
theorem ok_impl_compareNames : e_impl_compareNames.Ok Tryz.prog := mkE_ok envC (ok_cons ok_impl_labelsOf (ok_cons ok_slices_Reverse_string_string (ok_cons ok_slices_Compare_string_string ok_nil))) Tryz.func60 (by decide +kernel) (by kernel_rfl)
def h_cmp_isNaN_int : List (Nat × Hint) := []
noncomputable def e_cmp_isNaN_int : Ent := mkE tysC 184 [] h_cmp_isNaN_int Tryz.f184 [(.vw, (.int .i64))] true .bool
theorem ok_cmp_isNaN_int : e_cmp_isNaN_int.Ok Tryz.prog := mkE_ok envC ok_nil Tryz.func184 (by decide +kernel) (by kernel_rfl)
def h_cmp_Compare_int : List (Nat × Hint) := []
noncomputable def e_cmp_Compare_int : Ent := mkE tysC 166 [e_cmp_isNaN_int] h_cmp_Compare_int Tryz.f166 [(.vw, (.int .i64)), (.vw, (.int .i64))] true (.int .i64)
theorem ok_cmp_Compare_int : e_cmp_Compare_int.Ok Tryz.prog := mkE_ok envC (ok_cons ok_cmp_isNaN_int ok_nil) Tryz.func166 (by decide +kernel) (by kernel_rfl)
def h_cmp_Or_int : List (Nat × Hint) := [(58, .loop ⟨[3, 6, 7], [(8, 0, (.int .i64))]⟩ [(1, ⟨[], [(2, 0, (.int .i64))]⟩), (2, ⟨[3], []⟩)])]
noncomputable def e_cmp_Or_int : Ent := mkE tysC 162 [] h_cmp_Or_int Tryz.f162 [(.vw, (.lst false (.int .i64)))] true (.int .i64)
theorem ok_cmp_Or_int : e_cmp_Or_int.Ok Tryz.prog := mkE_ok envC ok_nil Tryz.func162 (by decide +kernel) (by kernel_rfl)
def h_impl_compareKeys : List (Nat × Hint) := []
noncomputable def e_impl_compareKeys : Ent := mkE tysC 163 [e_impl_compareNames, e_cmp_Compare_int, e_cmp_Or_int] h_impl_compareKeys Tryz.f163 [(.vw, tyR), (.vw, tyR)] true (.int .i64)
theorem ok_impl_compareKeys : e_impl_compareKeys.Ok Tryz.prog := mkE_ok envC (ok_cons ok_impl_compareNames (ok_cons ok_cmp_Compare_int (ok_cons ok_cmp_Or_int ok_nil))) Tryz.func163 (by decide +kernel) (by kernel_rfl)
def h_impl_dataBytes : List (Nat × Hint) := []
noncomputable def e_impl_dataBytes : Ent := mkE tysC 165 [e_impl_DataBytes] h_impl_dataBytes Tryz.f165 [(.vw, (.int .i64)), (.vw, .str)] true .str
theorem ok_impl_dataBytes : e_impl_dataBytes.Ok Tryz.prog := mkE_ok envC (ok_cons ok_impl_DataBytes ok_nil) Tryz.func165 (by decide +kernel) (by kernel_rfl)
noncomputable abbrev e_strings_Compare : Ent := compareE 164
theorem ok_strings_Compare : e_strings_Compare.Ok Tryz.prog := compareE_ok Tryz.l106 (by kernel_rfl) Tryz.func164 (by decide +kernel) rfl
def h_impl_compareRecords : List (Nat × Hint) := []
noncomputable def e_impl_compareRecords : Ent := mkE tysC 147 [e_impl_compareKeys, e_impl_dataBytes, e_strings_Compare, e_cmp_Compare_int, e_cmp_Or_int] h_impl_compareRecords Tryz.f147 [(.vw, tyR), (.vw, tyR)] true (.int .i64)
theorem ok_impl_compareRecords : e_impl_compareRecords.Ok Tryz.prog := mkE_ok envC (ok_cons ok_impl_compareKeys (ok_cons ok_impl_dataBytes (ok_cons ok_strings_Compare (ok_cons ok_cmp_Compare_int (ok_cons ok_cmp_Or_int ok_nil))))) Tryz.func147 (by decide +kernel) (by kernel_rfl)
def h_impl_areRising : List (Nat × Hint) := [(26, .loop ⟨[0, 5, 6], [(7, 0, (.int .i64))]⟩ [(1, ⟨[2], []⟩), (2, ⟨[], []⟩)]), (1689, .join [(0, ⟨[0, 5, 6, 7], [(28, 0, .bool)]⟩)])]
noncomputable def e_impl_areRising : Ent := mkE tysC 126 [e_impl_GoodRecord, e_impl_compareRecords] h_impl_areRising Tryz.f126 [(.vw, tyRf)] true .bool
theorem ok_impl_areRising : e_impl_areRising.Ok Tryz.prog := mkE_ok envC (ok_cons ok_impl_GoodRecord (ok_cons ok_impl_compareRecords ok_nil)) Tryz.func126 (by decide +kernel) (by kernel_rfl)
def h_impl_isWhole : List (Nat × Hint) := [(3, .join [(0, ⟨[], [(4, 0, .bool)]⟩)])]
noncomputable def e_impl_isWhole : Ent := mkE tysC 103 [e_impl_isApex, e_impl_areRising] h_impl_isWhole Tryz.f103 [(.vw, .str), (.vw, tyRf)] true .bool
theorem ok_impl_isWhole : e_impl_isWhole.Ok Tryz.prog := mkE_ok envC (ok_cons ok_impl_isApex (ok_cons ok_impl_areRising ok_nil)) Tryz.func103 (by decide +kernel) (by kernel_rfl)
def h_internal_stringslite_HasSuffix : List (Nat × Hint) := [(3, .join [(0, ⟨[], [(4, 0, .bool)]⟩)])]
noncomputable def e_internal_stringslite_HasSuffix : Ent := mkE tysC 115 [] h_internal_stringslite_HasSuffix Tryz.f115 [(.vw, .str), (.vw, .str)] true .bool
theorem ok_internal_stringslite_HasSuffix : e_internal_stringslite_HasSuffix.Ok Tryz.prog := mkE_ok envC ok_nil Tryz.func115 (by decide +kernel) (by kernel_rfl)
def h_strings_HasSuffix : List (Nat × Hint) := []
noncomputable def e_strings_HasSuffix : Ent := mkE tysC 86 [e_internal_stringslite_HasSuffix] h_strings_HasSuffix Tryz.f86 [(.vw, .str), (.vw, .str)] true .bool
theorem ok_strings_HasSuffix : e_strings_HasSuffix.Ok Tryz.prog := mkE_ok envC (ok_cons ok_internal_stringslite_HasSuffix ok_nil) Tryz.func86 (by decide +kernel) (by kernel_rfl)
def h_impl_isBelow : List (Nat × Hint) := [(3, .join [(0, ⟨[], [(4, 0, .bool)]⟩)])]
noncomputable def e_impl_isBelow : Ent := mkE tysC 51 [e_strings_HasSuffix] h_impl_isBelow Tryz.f51 [(.vw, .str), (.vw, .str)] true .bool
theorem ok_impl_isBelow : e_impl_isBelow.Ok Tryz.prog := mkE_ok envC (ok_cons ok_strings_HasSuffix ok_nil) Tryz.func51 (by decide +kernel) (by kernel_rfl)
def h_impl_at : List (Nat × Hint) := [(58, .loop ⟨[1, 2, 11, 12], [(7, 0, tyRt), (13, 0, (.int .i64))]⟩ [(2, ⟨[], [(7, 0, tyRt)]⟩)]), (467, .join [(0, ⟨[1, 2, 11, 12, 13], [(7, 0, tyRt)]⟩)]), (3737, .join [(0, ⟨[1, 2, 7, 9, 11, 12, 13], [(30, 0, .bool)]⟩)]), (0, .frz [6])]
noncomputable def e_impl_at : Ent := mkE tysC 69 [] h_impl_at Tryz.f69 [(.vw, tyRf), (.vw, .str), (.vw, (.int .i64))] true tyRt
theorem ok_impl_at : e_impl_at.Ok Tryz.prog := mkE_ok envC ok_nil Tryz.func69 (by decide +kernel) (by kernel_rfl)
def h_impl_breaks_1 : List (Nat × Hint) := [(3, .join [(0, ⟨[], [(3, 0, .bool)]⟩)])]
noncomputable def e_impl_breaks_1 : Ent := mkE tysC 128 [] h_impl_breaks_1 Tryz.f128 [(.vw, tyR), (.vw, (.ptr tyR))] true .bool
theorem ok_impl_breaks_1 : e_impl_breaks_1.Ok Tryz.prog := mkE_ok envC ok_nil Tryz.func128 (by decide +kernel) (by kernel_rfl)
def h_slices_IndexFunc_impl_Record_impl_Record__impl_breaks_1 : List (Nat × Hint) := [(26, .loop ⟨[0, 1, 7], [(8, 0, (.int .i64))]⟩ [(1, ⟨[], [(4, 0, (.int .i64))]⟩), (2, ⟨[], []⟩)])]
noncomputable def e_slices_IndexFunc_impl_Record_impl_Record__impl_breaks_1 : Ent := mkE tysC 127 [e_impl_breaks_1] h_slices_IndexFunc_impl_Record_impl_Record__impl_breaks_1 Tryz.f127 [(.vw, tyRf), (.vw, (.fn 128 (.pair (.ptr tyR) .unit)))] true (.int .i64)
theorem ok_slices_IndexFunc_impl_Record_impl_Record__impl_breaks_1 : e_slices_IndexFunc_impl_Record_impl_Record__impl_breaks_1.Ok Tryz.prog := mkE_ok envC (ok_cons ok_impl_breaks_1 ok_nil) Tryz.func127 (by decide +kernel) (by kernel_rfl)
def h_slices_ContainsFunc_impl_Record_impl_Record__impl_breaks_1 : List (Nat × Hint) := []
noncomputable def e_slices_ContainsFunc_impl_Record_impl_Record__impl_breaks_1 : Ent := mkE tysC 104 [e_slices_IndexFunc_impl_Record_impl_Record__impl_breaks_1] h_slices_ContainsFunc_impl_Record_impl_Record__impl_breaks_1 Tryz.f104 [(.vw, tyRf), (.vw, (.fn 128 (.pair (.ptr tyR) .unit)))] true .bool
theorem ok_slices_ContainsFunc_impl_Record_impl_Record__impl_breaks_1 : e_slices_ContainsFunc_impl_Record_impl_Record__impl_breaks_1.Ok Tryz.prog := mkE_ok envC (ok_cons ok_slices_IndexFunc_impl_Record_impl_Record__impl_breaks_1 ok_nil) Tryz.func104 (by decide +kernel) (by kernel_rfl)
def h_impl_breaks_2 : List (Nat × Hint) := [(7, .join [(0, ⟨[], [(4, 0, .bool)]⟩)]), (3, .join [(0, ⟨[2, 3], [(5, 0, .bool)]⟩)])]
noncomputable def e_impl_breaks_2 : Ent := mkE tysC 129 [e_impl_isBelow] h_impl_breaks_2 Tryz.f129 [(.vw, tyR), (.vw, (.ptr .str)), (.vw, (.ptr tyR))] true .bool
theorem ok_impl_breaks_2 : e_impl_breaks_2.Ok Tryz.prog := mkE_ok envC (ok_cons ok_impl_isBelow ok_nil) Tryz.func129 (by decide +kernel) (by kernel_rfl)
def h_slices_IndexFunc_impl_Record_impl_Record__impl_breaks_2 : List (Nat × Hint) := [(26, .loop ⟨[0, 1, 7], [(8, 0, (.int .i64))]⟩ [(1, ⟨[], [(4, 0, (.int .i64))]⟩), (2, ⟨[], []⟩)])]
noncomputable def e_slices_IndexFunc_impl_Record_impl_Record__impl_breaks_2 : Ent := mkE tysC 127 [e_impl_breaks_2] h_slices_IndexFunc_impl_Record_impl_Record__impl_breaks_2 Tryz.f127 [(.vw, tyRf), (.vw, (.fn 129 (.pair (.ptr .str) (.pair (.ptr tyR) .unit))))] true (.int .i64)
theorem ok_slices_IndexFunc_impl_Record_impl_Record__impl_breaks_2 : e_slices_IndexFunc_impl_Record_impl_Record__impl_breaks_2.Ok Tryz.prog := mkE_ok envC (ok_cons ok_impl_breaks_2 ok_nil) Tryz.func127 (by decide +kernel) (by kernel_rfl)
def h_slices_ContainsFunc_impl_Record_impl_Record__impl_breaks_2 : List (Nat × Hint) := []
noncomputable def e_slices_ContainsFunc_impl_Record_impl_Record__impl_breaks_2 : Ent := mkE tysC 104 [e_slices_IndexFunc_impl_Record_impl_Record__impl_breaks_2] h_slices_ContainsFunc_impl_Record_impl_Record__impl_breaks_2 Tryz.f104 [(.vw, tyRf), (.vw, (.fn 129 (.pair (.ptr .str) (.pair (.ptr tyR) .unit))))] true .bool
theorem ok_slices_ContainsFunc_impl_Record_impl_Record__impl_breaks_2 : e_slices_ContainsFunc_impl_Record_impl_Record__impl_breaks_2.Ok Tryz.prog := mkE_ok envC (ok_cons ok_slices_IndexFunc_impl_Record_impl_Record__impl_breaks_2 ok_nil) Tryz.func104 (by decide +kernel) (by kernel_rfl)
def h_impl_breaks : List (Nat × Hint) := [(27646, .join [(0, ⟨[], [(8, 0, .bool)]⟩)]), (6910, .join [(0, ⟨[], [(8, 0, .bool)]⟩)]), (430, .join [(0, ⟨[], [(8, 0, .bool)]⟩)])]
noncomputable def e_impl_breaks : Ent := mkE tysC 106 [e_impl_isBelow, e_impl_at, e_slices_ContainsFunc_impl_Record_impl_Record__impl_breaks_1, e_slices_ContainsFunc_impl_Record_impl_Record__impl_breaks_2] h_impl_breaks Tryz.f106 [(.vw, .str), (.vw, tyRf), (.vw, tyR), (.vw, (.int .i64))] true .bool
theorem ok_impl_breaks : e_impl_breaks.Ok Tryz.prog := mkE_ok envC (ok_cons ok_impl_isBelow (ok_cons ok_impl_at (ok_cons ok_slices_ContainsFunc_impl_Record_impl_Record__impl_breaks_1 (ok_cons ok_slices_ContainsFunc_impl_Record_impl_Record__impl_breaks_2 ok_nil)))) Tryz.func106 (by decide +kernel) (by kernel_rfl)
def h_impl_RuleOf_1 : List (Nat × Hint) := []
noncomputable def e_impl_RuleOf_1 : Ent := mkE tysC 105 [e_impl_breaks] h_impl_RuleOf_1 Tryz.f105 [(.vw, tyR), (.vw, (.ptr .str)), (.vw, (.ptr tyRf)), (.vw, (.ptr (.int .i64)))] true .bool
theorem ok_impl_RuleOf_1 : e_impl_RuleOf_1.Ok Tryz.prog := mkE_ok envC (ok_cons ok_impl_breaks ok_nil) Tryz.func105 (by decide +kernel) (by kernel_rfl)
def h_slices_IndexFunc_impl_Record_impl_Record__impl_RuleOf_1 : List (Nat × Hint) := [(26, .loop ⟨[0, 1, 7], [(8, 0, (.int .i64))]⟩ [(1, ⟨[], [(4, 0, (.int .i64))]⟩), (2, ⟨[], []⟩)])]
noncomputable def e_slices_IndexFunc_impl_Record_impl_Record__impl_RuleOf_1 : Ent := mkE tysC 127 [e_impl_RuleOf_1] h_slices_IndexFunc_impl_Record_impl_Record__impl_RuleOf_1 Tryz.f127 [(.vw, tyRf), (.vw, (.fn 105 (.pair (.ptr .str) (.pair (.ptr tyRf) (.pair (.ptr (.int .i64)) .unit)))))] true (.int .i64)
theorem ok_slices_IndexFunc_impl_Record_impl_Record__impl_RuleOf_1 : e_slices_IndexFunc_impl_Record_impl_Record__impl_RuleOf_1.Ok Tryz.prog := mkE_ok envC (ok_cons ok_impl_RuleOf_1 ok_nil) Tryz.func127 (by decide +kernel) (by kernel_rfl)
def h_slices_ContainsFunc_impl_Record_impl_Record__impl_RuleOf_1 : List (Nat × Hint) := []
noncomputable def e_slices_ContainsFunc_impl_Record_impl_Record__impl_RuleOf_1 : Ent := mkE tysC 104 [e_slices_IndexFunc_impl_Record_impl_Record__impl_RuleOf_1] h_slices_ContainsFunc_impl_Record_impl_Record__impl_RuleOf_1 Tryz.f104 [(.vw, tyRf), (.vw, (.fn 105 (.pair (.ptr .str) (.pair (.ptr tyRf) (.pair (.ptr (.int .i64)) .unit)))))] true .bool
theorem ok_slices_ContainsFunc_impl_Record_impl_Record__impl_RuleOf_1 : e_slices_ContainsFunc_impl_Record_impl_Record__impl_RuleOf_1.Ok Tryz.prog := mkE_ok envC (ok_cons ok_slices_IndexFunc_impl_Record_impl_Record__impl_RuleOf_1 ok_nil) Tryz.func104 (by decide +kernel) (by kernel_rfl)
def h_impl_RuleOf : List (Nat × Hint) := [(58, .loop ⟨[2, 3], [(5, 2, (.int .i64))]⟩ [(1, ⟨[], [(4, 0, (.int .i64))]⟩), (2, ⟨[], []⟩)]), (932, .join [(0, ⟨[2, 3, 5], [(27, 0, .bool)]⟩)])]
noncomputable def e_impl_RuleOf : Ent := mkE tysC 68 [e_impl_isWhole, e_slices_ContainsFunc_impl_Record_impl_Record__impl_RuleOf_1, e_impl_at] h_impl_RuleOf Tryz.f68 [(.vw, .str), (.vw, tyRf)] true (.int .i64)
theorem ok_impl_RuleOf : e_impl_RuleOf.Ok Tryz.prog := mkE_ok envC (ok_cons ok_impl_isWhole (ok_cons ok_slices_ContainsFunc_impl_Record_impl_Record__impl_RuleOf_1 (ok_cons ok_impl_at ok_nil))) Tryz.func68 (by decide +kernel) (by kernel_rfl)
def h_impl_serialText : List (Nat × Hint) := []
noncomputable def e_impl_serialText : Ent := mkE tysC 70 [e_strconv_Itoa] h_impl_serialText Tryz.f70 [(.vw, (.int .i64))] true .str
theorem ok_impl_serialText : e_impl_serialText.Ok Tryz.prog := mkE_ok envC (ok_cons ok_strconv_Itoa ok_nil) Tryz.func70 (by decide +kernel) (by kernel_rfl)
def h_impl_GoodZone : List (Nat × Hint) := [(3, .join [(0, ⟨[], [(2, 0, .bool)]⟩)])]
noncomputable def e_impl_GoodZone : Ent := mkE tysC 36 [e_impl_isCounter, e_impl_RuleOf, e_impl_at, e_impl_serialText] h_impl_GoodZone Tryz.f36 [(.vw, tyZf)] true .bool
theorem ok_impl_GoodZone : e_impl_GoodZone.Ok Tryz.prog := mkE_ok envC (ok_cons ok_impl_isCounter (ok_cons ok_impl_RuleOf (ok_cons ok_impl_at (ok_cons ok_impl_serialText ok_nil)))) Tryz.func36 (by decide +kernel) (by kernel_rfl)
def h_impl_GoodWorld : List (Nat × Hint) := [(58, .loop ⟨[1, 19, 20], [(21, 0, (.int .i64))]⟩ [(1, ⟨[], [(2, 0, .bool)]⟩), (2, ⟨[], []⟩)]), (3737, .join [(0, ⟨[1, 19, 20, 21], [(45, 0, .bool)]⟩)]), (6, .join [(0, ⟨[1], [(17, 0, .bool)]⟩)])]
noncomputable def e_impl_GoodWorld : Ent := mkE tysC 27 [e_impl_within, e_impl_GoodZone, e_impl_compareNames] h_impl_GoodWorld Tryz.f27 [(.vw, (.pair (.lst false tyZf) .unit))] true .bool
theorem ok_impl_GoodWorld : e_impl_GoodWorld.Ok Tryz.prog := mkE_ok envC (ok_cons ok_impl_within (ok_cons ok_impl_GoodZone (ok_cons ok_impl_compareNames ok_nil))) Tryz.func27 (by decide +kernel) (by kernel_rfl)
def h_impl_World_find_1 : List (Nat × Hint) := []
noncomputable def e_impl_World_find_1 : Ent := mkE tysC 72 [e_impl_compareNames] h_impl_World_find_1 Tryz.f72 [(.vw, tyZf), (.vw, .str)] true (.int .i64)
theorem ok_impl_World_find_1 : e_impl_World_find_1.Ok Tryz.prog := mkE_ok envC (ok_cons ok_impl_compareNames ok_nil) Tryz.func72 (by decide +kernel) (by kernel_rfl)
def h_slices_BinarySearchFunc_impl_Zone_impl_Zone_string__impl_World_find_1 : List (Nat × Hint) := [(31, .join [(0, ⟨[], [(6, 0, (.int .i64)), (7, 0, .bool)]⟩)]), (60, .loop ⟨[0, 1, 2, 8], [(9, 0, (.int .i64)), (10, 0, (.int .i64))]⟩ [(2, ⟨[0, 1, 2, 8], [(9, 0, (.int .i64))]⟩)])]
noncomputable def e_slices_BinarySearchFunc_impl_Zone_impl_Zone_string__impl_World_find_1 : Ent := mkE tysC 71 [e_impl_World_find_1] h_slices_BinarySearchFunc_impl_Zone_impl_Zone_string__impl_World_find_1 Tryz.f71 [(.vw, (.lst false tyZf)), (.vw, .str), (.vw, (.fn 72 .unit))] false (.pair (.int .i64) (.pair .bool .unit))
theorem ok_slices_BinarySearchFunc_impl_Zone_impl_Zone_string__impl_World_find_1 : e_slices_BinarySearchFunc_impl_Zone_impl_Zone_string__impl_World_find_1.Ok Tryz.prog := mkE_ok envC (ok_cons ok_impl_World_find_1 ok_nil) Tryz.func71 (by decide +kernel) (by kernel_rfl)
def h_impl_World_find : List (Nat × Hint) := []
noncomputable def e_impl_World_find : Ent := mkE tysC 37 [e_slices_BinarySearchFunc_impl_Zone_impl_Zone_string__impl_World_find_1] h_impl_World_find Tryz.f37 [(.vw, (.pair (.lst false tyZf) .unit)), (.vw, .str)] false (.pair (.int .i64) (.pair .bool .unit))
theorem ok_impl_World_find : e_impl_World_find.Ok Tryz.prog := mkE_ok envC (ok_cons ok_slices_BinarySearchFunc_impl_Zone_impl_Zone_string__impl_World_find_1 ok_nil) Tryz.func37 (by decide +kernel) (by kernel_rfl)
def h_slices_Clone_impl_Zone_impl_Zone : List (Nat × Hint) := []
noncomputable def e_slices_Clone_impl_Zone_impl_Zone : Ent := mkE tysC 39 [] h_slices_Clone_impl_Zone_impl_Zone Tryz.f39 [(.vw, (.lst false tyZf))] true (.lst true tyZf)
theorem ok_slices_Clone_impl_Zone_impl_Zone : e_slices_Clone_impl_Zone_impl_Zone.Ok Tryz.prog := mkE_ok envC ok_nil Tryz.func39 (by decide +kernel) (by kernel_rfl)
def Tryz.insR38 : Go.Shelf.Ren := ⟨fun | 22 => 38 | 29 => 73 | 30 => 74 | n => n, fun | 0 => 0 | 3 => 3 | 4 => 4 | 9 => 38 | 24 => 30 | n => n, fun n => n⟩
noncomputable def Tryz.insI38 : TypeInfo := (Tryz.prog.info? 38).getD default
noncomputable def Tryz.insZ38 : Value := Tryz.insI38.zero.getD default
theorem Tryz.insL38 : InsL Tryz.prog Tryz.insR38 Tryz.insI38 Tryz.insZ38 := {
 mixed := by kernel_rfl
 f22 := ⟨Tryz.f38.name, by kernel_rfl, Tryz.func38.trans (congrArg some (by kernel_rfl))⟩
 f29 := fun args w => run_callFunc_extern Tryz.func73 (by kernel_rfl) (by kernel_rfl) (by kernel_rfl) (by kernel_rfl) args w
 t0 := Tryz.underlying0
 a0 := Tryz.isAgg0
 z0 := Tryz.sizeOf0
 v0 := Tryz.zeroValue0
 t3 := Tryz.underlying3
 a3 := Tryz.isAgg3
 z3 := Tryz.sizeOf3
 v3 := Tryz.zeroValue3
 t4 := Tryz.underlying4
 a4 := Tryz.isAgg4
 z4 := Tryz.sizeOf4
 v4 := Tryz.zeroValue4
 z9 := Tryz.sizeOf38
 t24 := Tryz.underlying30
 a24 := Tryz.isAgg30
 z24 := Tryz.sizeOf30
 v24 := Tryz.zeroValue30
 i9 := by kernel_rfl
 iz := by kernel_rfl
 is := of_decide_eq_true (by kernel_rfl)
 ic := by kernel_rfl }
noncomputable abbrev e_slices_Insert_impl_Zone_impl_Zone : Ent := insE 38 tyZf 48
theorem ok_slices_Insert_impl_Zone_impl_Zone : e_slices_Insert_impl_Zone_impl_Zone.Ok Tryz.prog := insE_ok Tryz.insL38 (by kernel_rfl) Tryz.func38 (by decide +kernel) rfl (by kernel_rfl) (by kernel_rfl) rfl rfl rfl
def h_slices_Clone_impl_Record_impl_Record : List (Nat × Hint) := []
noncomputable def e_slices_Clone_impl_Record_impl_Record : Ent := mkE tysC 75 [] h_slices_Clone_impl_Record_impl_Record Tryz.f75 [(.vw, tyRf)] true tyRt
theorem ok_slices_Clone_impl_Record_impl_Record : e_slices_Clone_impl_Record_impl_Record.Ok Tryz.prog := mkE_ok envC ok_nil Tryz.func75 (by decide +kernel) (by kernel_rfl)
def h_impl_ownZone : List (Nat × Hint) := []
noncomputable def e_impl_ownZone : Ent := mkE tysC 40 [e_slices_Clone_impl_Record_impl_Record] h_impl_ownZone Tryz.f40 [(.vw, tyZf)] true tyZt
theorem ok_impl_ownZone : e_impl_ownZone.Ok Tryz.prog := mkE_ok envC (ok_cons ok_slices_Clone_impl_Record_impl_Record ok_nil) Tryz.func40 (by decide +kernel) (by kernel_rfl)
def h_impl_AddZone : List (Nat × Hint) := [(506, .loop ⟨[4, 36, 37], [(8, 2, (.pair (.lst true tyZt) .unit)), (38, 0, (.int .i64))]⟩ [(2, ⟨[4], [(8, 2, (.pair (.lst true tyZt) .unit))]⟩)]), (6, .join [(0, ⟨[2, 3, 4], [(18, 0, .bool)]⟩)]), (0, .frz [35])]
noncomputable def e_impl_AddZone : Ent := mkE tysC 10 [e_impl_GoodWorld, e_impl_GoodZone, e_impl_World_find, e_slices_Clone_impl_Zone_impl_Zone, e_slices_Insert_impl_Zone_impl_Zone, e_impl_ownZone] h_impl_AddZone Tryz.f10 [(.vw, (.pair (.lst false tyZf) .unit)), (.vw, tyZf)] false (.pair (.pair (.lst true tyZt) .unit) (.pair .bool .unit))
theorem ok_impl_AddZone : e_impl_AddZone.Ok Tryz.prog := mkE_ok envC (ok_cons ok_impl_GoodWorld (ok_cons ok_impl_GoodZone (ok_cons ok_impl_World_find (ok_cons ok_slices_Clone_impl_Zone_impl_Zone (ok_cons ok_slices_Insert_impl_Zone_impl_Zone (ok_cons ok_impl_ownZone ok_nil)))))) Tryz.func10 (by decide +kernel) (by kernel_rfl)
def h_spec_NewZone : List (Nat × Hint) := []
noncomputable def e_spec_NewZone : Ent := mkE tysC 87 [e_spec_l6Apex] h_spec_NewZone Tryz.f87 [(.vw, .str)] false (.pair tyZt (.pair .bool .unit))
theorem ok_spec_NewZone : e_spec_NewZone.Ok Tryz.prog := mkE_ok envC (ok_cons ok_spec_l6Apex ok_nil) Tryz.func87 (by decide +kernel) (by kernel_rfl)
def h_spec_l11Delegates : List (Nat × Hint) := []
noncomputable def e_spec_l11Delegates : Ent := mkE tysC 89 [] h_spec_l11Delegates Tryz.f89 [(.vw, .str), (.vw, .str)] true (.lst true (.pair (.int .i64) (.pair tyR .unit)))
theorem ok_spec_l11Delegates : e_spec_l11Delegates.Ok Tryz.prog := mkE_ok envC ok_nil Tryz.func89 (by decide +kernel) (by kernel_rfl)
def h_spec_l6Batch : List (Nat × Hint) := [(26, .loop ⟨[0, 5, 6], [(7, 0, (.int .i64))]⟩ [(1, ⟨[2], []⟩), (2, ⟨[0], []⟩)]), (1689, .join [(0, ⟨[0, 5, 6, 7], [(26, 0, .bool)]⟩)])]
noncomputable def e_spec_l6Batch : Ent := mkE tysC 116 [e_spec_l1In, e_spec_GoodRecord] h_spec_l6Batch Tryz.f116 [(.vw, (.lst false (.pair (.int .i64) (.pair tyR .unit))))] true .bool
theorem ok_spec_l6Batch : e_spec_l6Batch.Ok Tryz.prog := mkE_ok envC (ok_cons ok_spec_l1In (ok_cons ok_spec_GoodRecord ok_nil)) Tryz.func116 (by decide +kernel) (by kernel_rfl)
def h_spec_l6Drop : List (Nat × Hint) := [(58, .loop ⟨[3, 8, 9], [(5, 0, tyRt), (10, 0, (.int .i64))]⟩ [(2, ⟨[], [(5, 0, tyRt)]⟩)]), (467, .join [(0, ⟨[3, 8, 9, 10], [(5, 0, tyRt)]⟩)]), (3737, .join [(0, ⟨[3, 5, 7, 8, 9, 10], [(32, 0, .bool)]⟩)]), (0, .frz [4])]
noncomputable def e_spec_l6Drop : Ent := mkE tysC 117 [] h_spec_l6Drop Tryz.f117 [(.vw, tyRf), (.vw, tyR)] true tyRt
theorem ok_spec_l6Drop : e_spec_l6Drop.Ok Tryz.prog := mkE_ok envC ok_nil Tryz.func117 (by decide +kernel) (by kernel_rfl)
def h_spec_l3Put : List (Nat × Hint) := [(30, .join [(0, ⟨[0, 3, 5], [(33, 0, .bool)]⟩)]), (28, .loop ⟨[0, 3], [(5, 0, (.int .i64))]⟩ [(2, ⟨[0, 3], [(5, 0, (.int .i64))]⟩)]), (112, .join [(0, ⟨[0, 3, 5], [(19, 0, .bool)]⟩)]), (0, .frz [4])]
noncomputable def e_spec_l3Put : Ent := mkE tysC 118 [e_spec_l3Compare] h_spec_l3Put Tryz.f118 [(.own, tyRt), (.vw, tyR)] true tyRt
theorem ok_spec_l3Put : e_spec_l3Put.Ok Tryz.prog := mkE_ok envC (ok_cons ok_spec_l3Compare ok_nil) Tryz.func118 (by decide +kernel) (by kernel_rfl)
def h_spec_ApplyBatch : List (Nat × Hint) := [(8186, .loop ⟨[4, 9, 108, 109], [(12, 2, tyZt), (110, 0, (.int .i64))]⟩ [(7, ⟨[4], [(12, 2, tyZt)]⟩)]), (523929, .join [(0, ⟨[4, 9, 12, 108, 109, 110], [(14, 2, tyR)]⟩)]), (254, .join [(0, ⟨[2, 4, 9], [(92, 0, .bool)]⟩)]), (506, .loop ⟨[2, 4, 61, 62], [(9, 0, tyRt), (63, 0, (.int .i64))]⟩ [(4, ⟨[2, 4], [(9, 0, tyRt)]⟩)]), (4051, .join [(0, ⟨[2, 4, 61, 62, 63], [(9, 0, tyRt)]⟩)]), (122, .loop ⟨[1, 2, 4, 24, 25], [(26, 0, (.int .i64))]⟩ [(1, ⟨[], [(4, 2, tyZt), (5, 0, (.int .i64))]⟩), (2, ⟨[1, 2, 4], []⟩)]), (15667, .join [(0, ⟨[1, 2, 4, 24, 25, 26], [(53, 0, .bool)]⟩)])]
noncomputable def e_spec_ApplyBatch : Ent := mkE tysC 88 [e_spec_GoodZone, e_spec_l6Batch, e_spec_l6Own, e_spec_l6Has, e_spec_l6Drop, e_spec_l3Put, e_spec_l6Rule, e_spec_l6Soa] h_spec_ApplyBatch Tryz.f88 [(.vw, tyZf), (.vw, (.lst false (.pair (.int .i64) (.pair tyR .unit))))] false (.pair tyZt (.pair (.int .i64) .unit))
theorem ok_spec_ApplyBatch : e_spec_ApplyBatch.Ok Tryz.prog := mkE_ok envC (ok_cons ok_spec_GoodZone (ok_cons ok_spec_l6Batch (ok_cons ok_spec_l6Own (ok_cons ok_spec_l6Has (ok_cons ok_spec_l6Drop (ok_cons ok_spec_l3Put (ok_cons ok_spec_l6Rule (ok_cons ok_spec_l6Soa ok_nil)))))))) Tryz.func88 (by decide +kernel) (by kernel_rfl)
def h_spec_l1Cur_next : List (Nat × Hint) := [(7, .join [(0, ⟨[0], [(3, 0, (.int .i64))]⟩)])]
noncomputable def e_spec_l1Cur_next : Ent := mkE tysC 119 [] h_spec_l1Cur_next Tryz.f119 [(.iop, (.pair (.lst false (.int .u8)) (.pair (.int .i64) (.pair (.int .u64) .unit))))] true (.int .i64)
theorem ok_spec_l1Cur_next : e_spec_l1Cur_next.Ok Tryz.prog := mkE_ok envC ok_nil Tryz.func119 (by decide +kernel) (by kernel_rfl)
def h_spec_l1Cur_pick : List (Nat × Hint) := [(15, .join [(0, ⟨[1], [(0, 2, (.pair (.lst false (.int .u8)) (.pair (.int .i64) (.pair (.int .u64) .unit)))), (5, 0, (.int .i64))]⟩)])]
noncomputable def e_spec_l1Cur_pick : Ent := mkE tysC 91 [e_spec_l1Cur_next] h_spec_l1Cur_pick Tryz.f91 [(.iop, (.pair (.lst false (.int .u8)) (.pair (.int .i64) (.pair (.int .u64) .unit)))), (.vw, (.int .i64))] true (.int .i64)
theorem ok_spec_l1Cur_pick : e_spec_l1Cur_pick.Ok Tryz.prog := mkE_ok envC (ok_cons ok_spec_l1Cur_next ok_nil) Tryz.func91 (by decide +kernel) (by kernel_rfl)
def h_spec_l1Cur_one : List (Nat × Hint) := []
noncomputable def e_spec_l1Cur_one : Ent := mkE tysC 90 [e_spec_l1Cur_pick] h_spec_l1Cur_one Tryz.f90 [(.iop, (.pair (.lst false (.int .u8)) (.pair (.int .i64) (.pair (.int .u64) .unit)))), (.vw, (.int .i64))] true .bool
theorem ok_spec_l1Cur_one : e_spec_l1Cur_one.Ok Tryz.prog := mkE_ok envC (ok_cons ok_spec_l1Cur_pick ok_nil) Tryz.func90 (by decide +kernel) (by kernel_rfl)
def h_spec_l1Cur_of : List (Nat × Hint) := []
noncomputable def e_spec_l1Cur_of : Ent := mkE tysC 56 [e_spec_l1Cur_pick] h_spec_l1Cur_of Tryz.f56 [(.iop, (.pair (.lst false (.int .u8)) (.pair (.int .i64) (.pair (.int .u64) .unit)))), (.vw, (.lst false .str))] true .str
theorem ok_spec_l1Cur_of : e_spec_l1Cur_of.Ok Tryz.prog := mkE_ok envC (ok_cons ok_spec_l1Cur_pick ok_nil) Tryz.func56 (by decide +kernel) (by kernel_rfl)
def h_spec_l1Cur_among : List (Nat × Hint) := []
noncomputable def e_spec_l1Cur_among : Ent := mkE tysC 120 [e_spec_l1Cur_pick] h_spec_l1Cur_among Tryz.f120 [(.iop, (.pair (.lst false (.int .u8)) (.pair (.int .i64) (.pair (.int .u64) .unit)))), (.vw, (.lst false (.int .i64)))] true (.int .i64)
theorem ok_spec_l1Cur_among : e_spec_l1Cur_among.Ok Tryz.prog := mkE_ok envC (ok_cons ok_spec_l1Cur_pick ok_nil) Tryz.func120 (by decide +kernel) (by kernel_rfl)
def h_spec_l1Cur_name : List (Nat × Hint) := [(122, .loop ⟨[], [(0, 2, (.pair (.lst false (.int .u8)) (.pair (.int .i64) (.pair (.int .u64) .unit)))), (3, 0, .str), (4, 0, (.int .i64))]⟩ [(3, ⟨[], [(0, 2, (.pair (.lst false (.int .u8)) (.pair (.int .i64) (.pair (.int .u64) .unit)))), (3, 0, .str)]⟩)]), (0, .frz [10, 15, 18, 27])]
noncomputable def e_spec_l1Cur_name : Ent := mkE tysC 94 [e_spec_l1Cur_pick, e_spec_l1Cur_of] h_spec_l1Cur_name Tryz.f94 [(.iop, (.pair (.lst false (.int .u8)) (.pair (.int .i64) (.pair (.int .u64) .unit))))] true .str
theorem ok_spec_l1Cur_name : e_spec_l1Cur_name.Ok Tryz.prog := mkE_ok envC (ok_cons ok_spec_l1Cur_pick (ok_cons ok_spec_l1Cur_of ok_nil)) Tryz.func94 (by decide +kernel) (by kernel_rfl)
def h_spec_l1Cur_target : List (Nat × Hint) := [(0, .frz [4])]
noncomputable def e_spec_l1Cur_target : Ent := mkE tysC 141 [e_spec_l1Cur_of] h_spec_l1Cur_target Tryz.f141 [(.iop, (.pair (.lst false (.int .u8)) (.pair (.int .i64) (.pair (.int .u64) .unit))))] true .str
theorem ok_spec_l1Cur_target : e_spec_l1Cur_target.Ok Tryz.prog := mkE_ok envC (ok_cons ok_spec_l1Cur_of ok_nil) Tryz.func141 (by decide +kernel) (by kernel_rfl)
def h_spec_l1Cur_record : List (Nat × Hint) := [(15, .join [(0, ⟨[2], [(0, 2, (.pair (.lst false (.int .u8)) (.pair (.int .i64) (.pair (.int .u64) .unit)))), (3, 2, tyR)]⟩)]), (7, .join [(0, ⟨[2], [(0, 2, (.pair (.lst false (.int .u8)) (.pair (.int .i64) (.pair (.int .u64) .unit)))), (3, 2, tyR)]⟩)]), (235, .join [(0, ⟨[0, 2, 3, 14], [(25, 0, .bool)]⟩)]), (0, .frz [7, 10, 22, 16, 52, 58])]
noncomputable def e_spec_l1Cur_record : Ent := mkE tysC 121 [e_spec_l1Cur_name, e_spec_l1Cur_among, e_spec_l1Cur_of, e_spec_l1Cur_target, e_spec_l1Cur_pick, e_spec_l1Num] h_spec_l1Cur_record Tryz.f121 [(.iop, (.pair (.lst false (.int .u8)) (.pair (.int .i64) (.pair (.int .u64) .unit))))] true tyR
theorem ok_spec_l1Cur_record : e_spec_l1Cur_record.Ok Tryz.prog := mkE_ok envC (ok_cons ok_spec_l1Cur_name (ok_cons ok_spec_l1Cur_among (ok_cons ok_spec_l1Cur_of (ok_cons ok_spec_l1Cur_target (ok_cons ok_spec_l1Cur_pick (ok_cons ok_spec_l1Num ok_nil)))))) Tryz.func121 (by decide +kernel) (by kernel_rfl)
def h_spec_l1Cur_inZone : List (Nat × Hint) := [(127, .join [(0, ⟨[2], [(0, 2, (.pair (.lst false (.int .u8)) (.pair (.int .i64) (.pair (.int .u64) .unit)))), (3, 2, tyR)]⟩)]), (254, .join [(0, ⟨[2, 3], [(0, 2, (.pair (.lst false (.int .u8)) (.pair (.int .i64) (.pair (.int .u64) .unit)))), (35, 0, .bool)]⟩)]), (63, .join [(0, ⟨[2], [(0, 2, (.pair (.lst false (.int .u8)) (.pair (.int .i64) (.pair (.int .u64) .unit)))), (3, 2, tyR)]⟩)]), (126, .join [(0, ⟨[2, 3], [(0, 2, (.pair (.lst false (.int .u8)) (.pair (.int .i64) (.pair (.int .u64) .unit)))), (21, 0, .bool)]⟩)]), (0, .frz [10])]
noncomputable def e_spec_l1Cur_inZone : Ent := mkE tysC 93 [e_spec_l1Cur_record, e_spec_l1Cur_one, e_spec_l1Cur_of] h_spec_l1Cur_inZone Tryz.f93 [(.iop, (.pair (.lst false (.int .u8)) (.pair (.int .i64) (.pair (.int .u64) .unit))))] true tyR
theorem ok_spec_l1Cur_inZone : e_spec_l1Cur_inZone.Ok Tryz.prog := mkE_ok envC (ok_cons ok_spec_l1Cur_record (ok_cons ok_spec_l1Cur_one (ok_cons ok_spec_l1Cur_of ok_nil))) Tryz.func93 (by decide +kernel) (by kernel_rfl)
def h_spec_l1Cur_batch : List (Nat × Hint) := [(63, .join [(0, ⟨[], [(0, 2, (.pair (.lst false (.int .u8)) (.pair (.int .i64) (.pair (.int .u64) .unit)))), (3, 0, (.lst true (.pair (.int .i64) (.pair tyR .unit))))]⟩)]), (124, .loop ⟨[], [(0, 2, (.pair (.lst false (.int .u8)) (.pair (.int .i64) (.pair (.int .u64) .unit)))), (3, 0, (.lst true (.pair (.int .i64) (.pair tyR .unit)))), (4, 0, (.int .i64))]⟩ [(2, ⟨[], [(0, 2, (.pair (.lst false (.int .u8)) (.pair (.int .i64) (.pair (.int .u64) .unit)))), (3, 0, (.lst true (.pair (.int .i64) (.pair tyR .unit))))]⟩)]), (15, .join [(0, ⟨[3], [(0, 2, (.pair (.lst false (.int .u8)) (.pair (.int .i64) (.pair (.int .u64) .unit)))), (4, 0, (.int .i64))]⟩)]), (0, .frz [19, 2])]
noncomputable def e_spec_l1Cur_batch : Ent := mkE tysC 92 [e_spec_l1Cur_pick, e_spec_l1Cur_one, e_spec_l1Cur_among, e_spec_l1Cur_inZone] h_spec_l1Cur_batch Tryz.f92 [(.iop, (.pair (.lst false (.int .u8)) (.pair (.int .i64) (.pair (.int .u64) .unit))))] true (.lst true (.pair (.int .i64) (.pair tyR .unit)))
theorem ok_spec_l1Cur_batch : e_spec_l1Cur_batch.Ok Tryz.prog := mkE_ok envC (ok_cons ok_spec_l1Cur_pick (ok_cons ok_spec_l1Cur_one (ok_cons ok_spec_l1Cur_among (ok_cons ok_spec_l1Cur_inZone ok_nil)))) Tryz.func92 (by decide +kernel) (by kernel_rfl)
def h_spec_l1Cur_zone : List (Nat × Hint) := [(31, .join [(0, ⟨[2], [(0, 2, (.pair (.lst false (.int .u8)) (.pair (.int .i64) (.pair (.int .u64) .unit)))), (3, 2, tyZt)]⟩)]), (122, .loop ⟨[2], [(0, 2, (.pair (.lst false (.int .u8)) (.pair (.int .i64) (.pair (.int .u64) .unit)))), (3, 2, tyZt), (5, 0, (.int .i64))]⟩ [(2, ⟨[2], [(0, 2, (.pair (.lst false (.int .u8)) (.pair (.int .i64) (.pair (.int .u64) .unit)))), (3, 2, tyZt)]⟩)]), (489, .join [(0, ⟨[2, 5], [(0, 2, (.pair (.lst false (.int .u8)) (.pair (.int .i64) (.pair (.int .u64) .unit)))), (3, 2, tyZt)]⟩)]), (7, .join [(0, ⟨[2], [(0, 2, (.pair (.lst false (.int .u8)) (.pair (.int .i64) (.pair (.int .u64) .unit)))), (3, 2, tyZt)]⟩)]), (0, .frz [10])]
noncomputable def e_spec_l1Cur_zone : Ent := mkE tysC 58 [e_spec_l1Cur_of, e_spec_NewZone, e_spec_l1Cur_one, e_spec_l6Soa, e_spec_l1Cur_pick, e_spec_l1Cur_batch, e_spec_ApplyBatch, e_spec_l1Cur_inZone, e_spec_l1Cur_name] h_spec_l1Cur_zone Tryz.f58 [(.iop, (.pair (.lst false (.int .u8)) (.pair (.int .i64) (.pair (.int .u64) .unit))))] true tyZt
theorem ok_spec_l1Cur_zone : e_spec_l1Cur_zone.Ok Tryz.prog := mkE_ok envC (ok_cons ok_spec_l1Cur_of (ok_cons ok_spec_NewZone (ok_cons ok_spec_l1Cur_one (ok_cons ok_spec_l6Soa (ok_cons ok_spec_l1Cur_pick (ok_cons ok_spec_l1Cur_batch (ok_cons ok_spec_ApplyBatch (ok_cons ok_spec_l1Cur_inZone (ok_cons ok_spec_l1Cur_name ok_nil))))))))) Tryz.func58 (by decide +kernel) (by kernel_rfl)
def h_spec_l1Cur_world : List (Nat × Hint) := [(4095, .join [(0, ⟨[2], [(0, 2, (.pair (.lst false (.int .u8)) (.pair (.int .i64) (.pair (.int .u64) .unit)))), (7, 2, (.pair (.lst true tyZt) .unit))]⟩)]), (2047, .join [(0, ⟨[2], [(0, 2, (.pair (.lst false (.int .u8)) (.pair (.int .i64) (.pair (.int .u64) .unit)))), (7, 2, (.pair (.lst true tyZt) .unit))]⟩)]), (8189, .join [(0, ⟨[2, 7, 19], [(0, 2, (.pair (.lst false (.int .u8)) (.pair (.int .i64) (.pair (.int .u64) .unit)))), (97, 0, .bool)]⟩)]), (511, .join [(0, ⟨[0, 2], [(7, 2, (.pair (.lst true tyZt) .unit))]⟩)]), (127, .join [(0, ⟨[2], [(0, 2, (.pair (.lst false (.int .u8)) (.pair (.int .i64) (.pair (.int .u64) .unit)))), (7, 2, (.pair (.lst true tyZt) .unit))]⟩)]), (509, .join [(0, ⟨[2, 7, 12], [(0, 2, (.pair (.lst false (.int .u8)) (.pair (.int .i64) (.pair (.int .u64) .unit)))), (71, 0, .bool)]⟩)]), (63, .join [(0, ⟨[2, 7], [(0, 2, (.pair (.lst false (.int .u8)) (.pair (.int .i64) (.pair (.int .u64) .unit)))), (8, 2, tyZt)]⟩)]), (253, .join [(0, ⟨[2, 7, 8, 10], [(0, 2, (.pair (.lst false (.int .u8)) (.pair (.int .i64) (.pair (.int .u64) .unit)))), (58, 0, .bool)]⟩)]), (7, .join [(0, ⟨[2], [(0, 2, (.pair (.lst false (.int .u8)) (.pair (.int .i64) (.pair (.int .u64) .unit)))), (3, 2, tyZt)]⟩)]), (29, .join [(0, ⟨[2, 3, 5], [(0, 2, (.pair (.lst false (.int .u8)) (.pair (.int .i64) (.pair (.int .u64) .unit)))), (37, 0, .bool)]⟩)])]
noncomputable def e_spec_l1Cur_world : Ent := mkE tysC 55 [e_spec_NewZone, e_spec_l11Delegates, e_spec_ApplyBatch, e_spec_l1Cur_one, e_spec_AddZone, e_spec_l1Cur_zone] h_spec_l1Cur_world Tryz.f55 [(.iop, (.pair (.lst false (.int .u8)) (.pair (.int .i64) (.pair (.int .u64) .unit))))] true (.pair (.lst true tyZt) .unit)
theorem ok_spec_l1Cur_world : e_spec_l1Cur_world.Ok Tryz.prog := mkE_ok envC (ok_cons ok_spec_NewZone (ok_cons ok_spec_l11Delegates (ok_cons ok_spec_ApplyBatch (ok_cons ok_spec_l1Cur_one (ok_cons ok_spec_AddZone (ok_cons ok_spec_l1Cur_zone ok_nil)))))) Tryz.func55 (by decide +kernel) (by kernel_rfl)
def h_spec_l1Cur_asked : List (Nat × Hint) := [(0, .frz [8])]
noncomputable def e_spec_l1Cur_asked : Ent := mkE tysC 79 [e_spec_l1Cur_one, e_spec_l1Cur_name, e_spec_l1Cur_of] h_spec_l1Cur_asked Tryz.f79 [(.iop, (.pair (.lst false (.int .u8)) (.pair (.int .i64) (.pair (.int .u64) .unit))))] true .str
theorem ok_spec_l1Cur_asked : e_spec_l1Cur_asked.Ok Tryz.prog := mkE_ok envC (ok_cons ok_spec_l1Cur_one (ok_cons ok_spec_l1Cur_name (ok_cons ok_spec_l1Cur_of ok_nil))) Tryz.func79 (by decide +kernel) (by kernel_rfl)
def h_spec_DrawZoneFor : List (Nat × Hint) := []
noncomputable def e_spec_DrawZoneFor : Ent := mkE tysC 46 [e_spec_l1Cur_world, e_spec_l1Cur_asked] h_spec_DrawZoneFor Tryz.f46 [(.vw, (.lst false (.int .u8)))] false (.pair (.pair (.lst true tyZt) .unit) (.pair .str .unit))
theorem ok_spec_DrawZoneFor : e_spec_DrawZoneFor.Ok Tryz.prog := mkE_ok envC (ok_cons ok_spec_l1Cur_world (ok_cons ok_spec_l1Cur_asked ok_nil)) Tryz.func46 (by decide +kernel) (by kernel_rfl)
def h_spec_DrawReachedBy : List (Nat × Hint) := []
noncomputable def e_spec_DrawReachedBy : Ent := mkE tysC 16 [e_spec_DrawZoneFor] h_spec_DrawReachedBy Tryz.f16 [(.vw, (.lst false (.int .u8)))] false (.pair (.pair (.lst true tyZt) .unit) (.pair .str .unit))
theorem ok_spec_DrawReachedBy : e_spec_DrawReachedBy.Ok Tryz.prog := mkE_ok envC (ok_cons ok_spec_DrawZoneFor ok_nil) Tryz.func16 (by decide +kernel) (by kernel_rfl)
def h_impl_parentOf : List (Nat × Hint) := []
noncomputable def e_impl_parentOf : Ent := mkE tysC 112 [e_strings_Cut] h_impl_parentOf Tryz.f112 [(.vw, .str)] true .str
theorem ok_impl_parentOf : e_impl_parentOf.Ok Tryz.prog := mkE_ok envC (ok_cons ok_strings_Cut ok_nil) Tryz.func112 (by decide +kernel) (by kernel_rfl)
def h_impl_cutAbove : List (Nat × Hint) := [(28, .loop ⟨[2], [(1, 0, .str), (6, 0, .str), (7, 0, .bool)]⟩ [(2, ⟨[], [(6, 0, .str), (7, 0, .bool)]⟩)]), (113, .join [(0, ⟨[1, 2], [(6, 0, .str), (7, 0, .bool)]⟩)])]
noncomputable def e_impl_cutAbove : Ent := mkE tysC 84 [e_impl_at, e_impl_parentOf] h_impl_cutAbove Tryz.f84 [(.vw, tyZf), (.vw, .str)] false (.pair .str (.pair .bool .unit))
theorem ok_impl_cutAbove : e_impl_cutAbove.Ok Tryz.prog := mkE_ok envC (ok_cons ok_impl_at (ok_cons ok_impl_parentOf ok_nil)) Tryz.func84 (by decide +kernel) (by kernel_rfl)
def h_impl_reachedBy : List (Nat × Hint) := [(30, .loop ⟨[1, 2], [(5, 0, (.int .i64)), (6, 0, (.lst true .str))]⟩ [(1, ⟨[], [(4, 0, (.lst true .str))]⟩)]), (966, .join [(0, ⟨[1, 2, 6, 7, 9], [(33, 0, .bool)]⟩)])]
noncomputable def e_impl_reachedBy : Ent := mkE tysC 48 [e_impl_cutAbove, e_impl_World_find] h_impl_reachedBy Tryz.f48 [(.vw, (.pair (.lst false tyZf) .unit)), (.vw, .str)] true (.lst true .str)
theorem ok_impl_reachedBy : e_impl_reachedBy.Ok Tryz.prog := mkE_ok envC (ok_cons ok_impl_cutAbove (ok_cons ok_impl_World_find ok_nil)) Tryz.func48 (by decide +kernel) (by kernel_rfl)
def h_impl_ReachedBy : List (Nat × Hint) := [(6, .join [(0, ⟨[1, 2], [(13, 0, .bool)]⟩)])]
noncomputable def e_impl_ReachedBy : Ent := mkE tysC 17 [e_impl_GoodWorld, e_impl_GoodName, e_impl_reachedBy] h_impl_ReachedBy Tryz.f17 [(.vw, (.pair (.lst false tyZf) .unit)), (.vw, .str)] false (.pair (.lst true .str) (.pair .bool .unit))
theorem ok_impl_ReachedBy : e_impl_ReachedBy.Ok Tryz.prog := mkE_ok envC (ok_cons ok_impl_GoodWorld (ok_cons ok_impl_GoodName (ok_cons ok_impl_reachedBy ok_nil))) Tryz.func17 (by decide +kernel) (by kernel_rfl)
def h_spec_l11At : List (Nat × Hint) := [(26, .loop ⟨[1, 8, 9], [(10, 0, (.int .i64))]⟩ [(1, ⟨[], [(4, 0, (.int .i64))]⟩), (2, ⟨[], []⟩)])]
noncomputable def e_spec_l11At : Ent := mkE tysC 57 [] h_spec_l11At Tryz.f57 [(.vw, (.pair (.lst false tyZf) .unit)), (.vw, .str)] true (.int .i64)
theorem ok_spec_l11At : e_spec_l11At.Ok Tryz.prog := mkE_ok envC ok_nil Tryz.func57 (by decide +kernel) (by kernel_rfl)
def h_spec_l11Next : List (Nat × Hint) := []
noncomputable def e_spec_l11Next : Ent := mkE tysC 50 [e_spec_l6Cut, e_spec_l11At] h_spec_l11Next Tryz.f50 [(.vw, (.pair (.lst false tyZf) .unit)), (.vw, (.int .i64)), (.vw, .str)] true (.int .i64)
theorem ok_spec_l11Next : e_spec_l11Next.Ok Tryz.prog := mkE_ok envC (ok_cons ok_spec_l6Cut (ok_cons ok_spec_l11At ok_nil)) Tryz.func50 (by decide +kernel) (by kernel_rfl)
def h_spec_ReachedBy : List (Nat × Hint) := [(122, .loop ⟨[1, 2], [(6, 0, (.lst true .str)), (7, 0, (.int .i64))]⟩ [(2, ⟨[], [(6, 0, (.lst true .str))]⟩)]), (6, .join [(0, ⟨[1, 2], [(15, 0, .bool)]⟩)]), (0, .frz [4])]
noncomputable def e_spec_ReachedBy : Ent := mkE tysC 18 [e_spec_GoodWorld, e_spec_GoodName, e_spec_l11Next] h_spec_ReachedBy Tryz.f18 [(.vw, (.pair (.lst false tyZf) .unit)), (.vw, .str)] false (.pair (.lst true .str) (.pair .bool .unit))
theorem ok_spec_ReachedBy : e_spec_ReachedBy.Ok Tryz.prog := mkE_ok envC (ok_cons ok_spec_GoodWorld (ok_cons ok_spec_GoodName (ok_cons ok_spec_l11Next ok_nil))) Tryz.func18 (by decide +kernel) (by kernel_rfl)
def h_impl_countLabels : List (Nat × Hint) := []
noncomputable def e_impl_countLabels : Ent := mkE tysC 52 [e_impl_labelsOf] h_impl_countLabels Tryz.f52 [(.vw, .str)] true (.int .i64)
theorem ok_impl_countLabels : e_impl_countLabels.Ok Tryz.prog := mkE_ok envC (ok_cons ok_impl_labelsOf ok_nil) Tryz.func52 (by decide +kernel) (by kernel_rfl)
def h_impl_ZoneFor : List (Nat × Hint) := [(122, .loop ⟨[1, 2, 18, 19], [(6, 0, (.int .i64)), (20, 0, (.int .i64))]⟩ [(2, ⟨[], [(6, 0, (.int .i64))]⟩)]), (979, .join [(0, ⟨[1, 2, 18, 19, 20], [(6, 0, (.int .i64))]⟩)]), (7833, .join [(0, ⟨[1, 2, 6, 7, 18, 19, 20], [(41, 0, .bool)]⟩)]), (6, .join [(0, ⟨[1, 2], [(16, 0, .bool)]⟩)])]
noncomputable def e_impl_ZoneFor : Ent := mkE tysC 19 [e_impl_GoodWorld, e_impl_GoodName, e_impl_isBelow, e_impl_countLabels] h_impl_ZoneFor Tryz.f19 [(.vw, (.pair (.lst false tyZf) .unit)), (.vw, .str)] false (.pair (.int .i64) (.pair .bool .unit))
theorem ok_impl_ZoneFor : e_impl_ZoneFor.Ok Tryz.prog := mkE_ok envC (ok_cons ok_impl_GoodWorld (ok_cons ok_impl_GoodName (ok_cons ok_impl_isBelow (ok_cons ok_impl_countLabels ok_nil)))) Tryz.func19 (by decide +kernel) (by kernel_rfl)
def h_spec_l8Many : List (Nat × Hint) := []
noncomputable def e_spec_l8Many : Ent := mkE tysC 54 [e_spec_l1Labels] h_spec_l8Many Tryz.f54 [(.vw, .str)] true (.int .i64)
theorem ok_spec_l8Many : e_spec_l8Many.Ok Tryz.prog := mkE_ok envC (ok_cons ok_spec_l1Labels ok_nil) Tryz.func54 (by decide +kernel) (by kernel_rfl)
def h_spec_ZoneFor : List (Nat × Hint) := [(122, .loop ⟨[1, 2, 18, 19], [(6, 0, (.int .i64)), (20, 0, (.int .i64))]⟩ [(2, ⟨[], [(6, 0, (.int .i64))]⟩)]), (979, .join [(0, ⟨[1, 2, 18, 19, 20], [(6, 0, (.int .i64))]⟩)]), (7833, .join [(0, ⟨[1, 2, 6, 7, 18, 19, 20], [(41, 0, .bool)]⟩)]), (6, .join [(0, ⟨[1, 2], [(16, 0, .bool)]⟩)])]
noncomputable def e_spec_ZoneFor : Ent := mkE tysC 20 [e_spec_GoodWorld, e_spec_GoodName, e_spec_l1Below, e_spec_l8Many] h_spec_ZoneFor Tryz.f20 [(.vw, (.pair (.lst false tyZf) .unit)), (.vw, .str)] false (.pair (.int .i64) (.pair .bool .unit))
theorem ok_spec_ZoneFor : e_spec_ZoneFor.Ok Tryz.prog := mkE_ok envC (ok_cons ok_spec_GoodWorld (ok_cons ok_spec_GoodName (ok_cons ok_spec_l1Below (ok_cons ok_spec_l8Many ok_nil)))) Tryz.func20 (by decide +kernel) (by kernel_rfl)
def h_laws_sameTexts : List (Nat × Hint) := [(58, .loop ⟨[0, 1, 12], [(13, 0, (.int .i64))]⟩ [(1, ⟨[4], []⟩), (2, ⟨[], []⟩)])]
noncomputable def e_laws_sameTexts : Ent := mkE tysC 21 [] h_laws_sameTexts Tryz.f21 [(.vw, (.lst false .str)), (.vw, (.lst false .str))] true .bool
theorem ok_laws_sameTexts : e_laws_sameTexts.Ok Tryz.prog := mkE_ok envC ok_nil Tryz.func21 (by decide +kernel) (by kernel_rfl)
def h_impl_IsBelow : List (Nat × Hint) := [(6, .join [(0, ⟨[0, 1], [(13, 0, .bool)]⟩)])]
noncomputable def e_impl_IsBelow : Ent := mkE tysC 22 [e_impl_GoodName, e_impl_isBelow] h_impl_IsBelow Tryz.f22 [(.vw, .str), (.vw, .str)] false (.pair .bool (.pair .bool .unit))
theorem ok_impl_IsBelow : e_impl_IsBelow.Ok Tryz.prog := mkE_ok envC (ok_cons ok_impl_GoodName (ok_cons ok_impl_isBelow ok_nil)) Tryz.func22 (by decide +kernel) (by kernel_rfl)
def h_spec_DrawIsDelegated : List (Nat × Hint) := [(0, .frz [11])]
noncomputable def e_spec_DrawIsDelegated : Ent := mkE tysC 23 [e_spec_l1Cur_world, e_spec_l1Cur_of] h_spec_DrawIsDelegated Tryz.f23 [(.vw, (.lst false (.int .u8)))] false (.pair (.pair (.lst true tyZt) .unit) (.pair .str .unit))
theorem ok_spec_DrawIsDelegated : e_spec_DrawIsDelegated.Ok Tryz.prog := mkE_ok envC (ok_cons ok_spec_l1Cur_world (ok_cons ok_spec_l1Cur_of ok_nil)) Tryz.func23 (by decide +kernel) (by kernel_rfl)
def h_impl_IsDelegated : List (Nat × Hint) := [(6, .join [(0, ⟨[1, 2], [(16, 0, .bool)]⟩)])]
noncomputable def e_impl_IsDelegated : Ent := mkE tysC 24 [e_impl_GoodWorld, e_impl_GoodName, e_impl_World_find, e_impl_reachedBy] h_impl_IsDelegated Tryz.f24 [(.vw, (.pair (.lst false tyZf) .unit)), (.vw, .str)] false (.pair .bool (.pair .bool .unit))
theorem ok_impl_IsDelegated : e_impl_IsDelegated.Ok Tryz.prog := mkE_ok envC (ok_cons ok_impl_GoodWorld (ok_cons ok_impl_GoodName (ok_cons ok_impl_World_find (ok_cons ok_impl_reachedBy ok_nil)))) Tryz.func24 (by decide +kernel) (by kernel_rfl)
def h_spec_IsDelegated : List (Nat × Hint) := [(6, .join [(0, ⟨[1, 2], [(16, 0, .bool)]⟩)])]
noncomputable def e_spec_IsDelegated : Ent := mkE tysC 25 [e_spec_GoodWorld, e_spec_l11At, e_spec_ReachedBy] h_spec_IsDelegated Tryz.f25 [(.vw, (.pair (.lst false tyZf) .unit)), (.vw, .str)] false (.pair .bool (.pair .bool .unit))
theorem ok_spec_IsDelegated : e_spec_IsDelegated.Ok Tryz.prog := mkE_ok envC (ok_cons ok_spec_GoodWorld (ok_cons ok_spec_l11At (ok_cons ok_spec_ReachedBy ok_nil))) Tryz.func25 (by decide +kernel) (by kernel_rfl)
def h_spec_DrawAddZone : List (Nat × Hint) := []
noncomputable def e_spec_DrawAddZone : Ent := mkE tysC 26 [e_spec_l1Cur_world, e_spec_l1Cur_zone] h_spec_DrawAddZone Tryz.f26 [(.vw, (.lst false (.int .u8)))] false (.pair (.pair (.lst true tyZt) .unit) (.pair tyZt .unit))
theorem ok_spec_DrawAddZone : e_spec_DrawAddZone.Ok Tryz.prog := mkE_ok envC (ok_cons ok_spec_l1Cur_world (ok_cons ok_spec_l1Cur_zone ok_nil)) Tryz.func26 (by decide +kernel) (by kernel_rfl)
def h_laws_FnReached : List (Nat × Hint) := [(131071, .join [(0, ⟨[], [(4, 0, .bool)]⟩)]), (131070, .join [(0, ⟨[29, 31, 32], [(218, 0, .bool)]⟩)]), (511, .join [(0, ⟨[1], []⟩), (1, ⟨[], [(4, 0, .bool)]⟩)]), (16363, .join [(0, ⟨[1], [(162, 0, .bool)]⟩)]), (32722, .loop ⟨[1, 5, 6, 7, 11, 12, 90, 91], [(92, 0, (.int .i64))]⟩ [(1, ⟨[], [(4, 0, .bool)]⟩), (2, ⟨[1, 5, 7, 11, 12], []⟩)]), (261779, .join [(0, ⟨[1, 5, 6, 7, 11, 12, 90, 91, 92], []⟩), (1, ⟨[], [(4, 0, .bool)]⟩)]), (67015485, .join [(0, ⟨[1, 5, 6, 7, 11, 12, 90, 91, 92], [(135, 0, .bool)]⟩)]), (8376934, .join [(0, ⟨[1, 5, 6, 7, 11, 12, 15, 16, 90, 91, 92], [(108, 0, .bool)]⟩)]), (510, .join [(0, ⟨[1, 5, 6, 7, 8, 11, 12], [(88, 0, .bool)]⟩)])]
noncomputable def e_laws_FnReached : Ent := mkE tysC 4 [e_spec_DrawReachedBy, e_impl_ReachedBy, e_spec_ReachedBy, e_impl_ZoneFor, e_spec_ZoneFor, e_laws_sameTexts, e_impl_IsBelow, e_spec_DrawIsDelegated, e_impl_IsDelegated, e_spec_IsDelegated, e_spec_DrawAddZone, e_impl_AddZone, e_spec_AddZone, e_impl_GoodWorld] h_laws_FnReached Tryz.f4 [(.vw, (.lst false (.int .u8))), (.vw, (.lst false (.int .u8)))] true .bool
theorem ok_laws_FnReached : e_laws_FnReached.Ok Tryz.prog := mkE_ok envC (ok_cons ok_spec_DrawReachedBy (ok_cons ok_impl_ReachedBy (ok_cons ok_spec_ReachedBy (ok_cons ok_impl_ZoneFor (ok_cons ok_spec_ZoneFor (ok_cons ok_laws_sameTexts (ok_cons ok_impl_IsBelow (ok_cons ok_spec_DrawIsDelegated (ok_cons ok_impl_IsDelegated (ok_cons ok_spec_IsDelegated (ok_cons ok_spec_DrawAddZone (ok_cons ok_impl_AddZone (ok_cons ok_spec_AddZone (ok_cons ok_impl_GoodWorld ok_nil)))))))))))))) Tryz.func4 (by decide +kernel) (by kernel_rfl)
end Go.Proofs.YtbacjgkmkkphdaaGreatDoor
