/- The functions that the law reaches, each as a program of expressions. -/
import Derived.Test.YtobighfemobgjaaGreatDoorLb1
import Derived.Test.YtobighfemobgjaaGreatDoorProg
import Derived.KernelRfl
import Derived.Test.YtobighfemobgjaaGreatDoorLays
set_option linter.unusedSectionVars false
set_option linter.unusedVariables false
set_option linter.unusedSimpArgs false
namespace Go.Proofs.YtobighfemobgjaaGreatDoor
open Go Go.Own
set_option maxRecDepth 100000
instance glbI : Glb := Glb.at [(0, isInt .i64), (1, isErr), (2, isErr), (5, isArr (Lib.pow10Tab.map fun z => Value.int .u64 z).toArray)]
theorem glbMaxLen : ∀ h V, Glb.ok h V → ∃ m arr ty fz, h[Tryz.l146_ren.g 1]? = some (.cells arr ty fz) ∧ arr[0]? = some (.int .i64 m) :=
  fun _ _ h => isInt_get (h (0, isInt .i64) (by simp)).2
theorem glbSyn : ∀ h V, Glb.ok h V → ∃ ev arr ty fz, h[Tryz.l172_ren.g 15]? = some (.cells arr ty fz) ∧ arr[0]? = some ev ∧ (ev = .nilIface ∨ ∃ te pe, ev = .iface te pe) :=
  fun _ _ h => isErr_get (h (1, isErr) (by simp)).2
theorem glbRng : ∀ h V, Glb.ok h V → ∃ ev arr ty fz, h[Tryz.l172_ren.g 16]? = some (.cells arr ty fz) ∧ arr[0]? = some ev ∧ (ev = .nilIface ∨ ∃ te pe, ev = .iface te pe) :=
  fun _ _ h => isErr_get (h (2, isErr) (by simp)).2
theorem glbPow : ∀ h V, Glb.ok h V → ∃ ty fz, h[5]? = some (.cells (Lib.pow10Tab.map fun z => Value.int .u64 z).toArray ty fz) :=
  fun _ _ h => isArr_get (h (5, isArr (Lib.pow10Tab.map fun z => Value.int .u64 z).toArray) (by simp)).2
abbrev tyR : T := .pair .str (.pair (.int .i64) (.pair (.int .i64) (.pair .str .unit)))
abbrev tyD : T := .pair (.int .i64) (.pair (.int .i64) (.pair (.int .i64) (.pair (.int .i64) .unit)))
abbrev tyRf : T := .lst false tyR
abbrev tyRt : T := .lst true tyR
abbrev tyZf : T := .pair .str (.pair (.int .i64) (.pair tyRf .unit))
abbrev tyZt : T := .pair .str (.pair (.int .i64) (.pair tyRt .unit))
def tysC : List (TypeId × T × Nat) := [(3, (.int .i64), 0), (4, .bool, 0), (5, (.int .u8), 0), (9, .str, 0), (22, (.lst true (.int .u8)), 1), (23, (.lst true (.pair .str (.pair .str (.pair (.int .i64) (.pair (.int .i64) .unit))))), 48), (25, (.pair .str (.pair (.lst true (.pair .str (.pair .str (.pair (.int .i64) (.pair (.int .i64) .unit))))) .unit)), 0), (26, (.lst true (.pair .str (.pair .bool (.pair (.int .i64) .unit)))), 32), (28, (.pair (.int .i64) (.pair (.int .i64) (.pair (.lst true (.pair .str (.pair .bool (.pair (.int .i64) .unit)))) .unit))), 0), (31, (.lst true (.int .i64)), 8), (45, tyR, 0), (49, (.pair .str (.pair .str (.pair (.int .i64) (.pair (.int .i64) .unit)))), 0), (61, (.lst true (.pair (.int .i64) (.pair (.int .i64) .unit))), 16), (64, (.int .u64), 0), (66, (.pair (.lst true (.int .u8)) (.pair (.int .i64) (.pair (.int .u64) .unit))), 0), (82, (.pair .str (.pair .bool (.pair (.int .i64) .unit))), 0), (88, (.lst true .str), 16), (93, (.pair (.int .i64) (.pair (.int .i64) .unit)), 0), (94, (.lst true .bool), 1), (98, (.lst true (.pair (.int .i64) (.pair .bool .unit))), 16), (126, (.pair (.int .i64) (.pair .bool .unit)), 0), (129, (.int .u64), 0), (135, .err, 0)]
theorem envC : ∀ sig n fx fr, EnvOk Tryz.prog ⟨tyOf tysC, ebOf tysC, sig, n, fx, fr⟩ := by
  refine EnvOk.ofL (fun sig n fx fr t ht => ?_) (by kernel_rfl)
  simp only [tysC, List.map_cons, List.map_nil, List.mem_cons] at ht
  rcases ht with rfl | ht
  · exact ⟨Tryz.underlying3, rfl, by kernel_rfl, by kernel_rfl⟩
  rcases ht with rfl | ht
  · exact ⟨Tryz.underlying4, rfl, by kernel_rfl, by kernel_rfl⟩
  rcases ht with rfl | ht
  · exact ⟨Tryz.underlying5, rfl, by kernel_rfl, by kernel_rfl⟩
  rcases ht with rfl | ht
  · exact ⟨Tryz.underlying9, rfl, by kernel_rfl, by kernel_rfl⟩
  rcases ht with rfl | ht
  · exact ⟨⟨rfl, _, Tryz.underlying22, rfl, rfl, by kernel_rfl⟩, rfl, by kernel_rfl, by kernel_rfl⟩
  rcases ht with rfl | ht
  · exact ⟨⟨rfl, _, Tryz.underlying23, rfl, rfl, by kernel_rfl⟩, rfl, by kernel_rfl, by kernel_rfl⟩
  rcases ht with rfl | ht
  · exact ⟨⟨_, Tryz.underlying25, rfl, rfl, rfl, rfl, rfl, rfl, trivial⟩, rfl, by kernel_rfl, by kernel_rfl⟩
  rcases ht with rfl | ht
  · exact ⟨⟨rfl, _, Tryz.underlying26, rfl, rfl, by kernel_rfl⟩, rfl, by kernel_rfl, by kernel_rfl⟩
  rcases ht with rfl | ht
  · exact ⟨⟨_, Tryz.underlying28, rfl, rfl, rfl, rfl, rfl, rfl, rfl, rfl, rfl, trivial⟩, rfl, by kernel_rfl, by kernel_rfl⟩
  rcases ht with rfl | ht
  · exact ⟨⟨rfl, _, Tryz.underlying31, rfl, rfl, by kernel_rfl⟩, rfl, by kernel_rfl, by kernel_rfl⟩
  rcases ht with rfl | ht
  · exact ⟨⟨_, Tryz.underlying45, rfl, rfl, rfl, rfl, rfl, rfl, rfl, rfl, rfl, rfl, rfl, rfl, trivial⟩, rfl, by kernel_rfl, by kernel_rfl⟩
  rcases ht with rfl | ht
  · exact ⟨⟨_, Tryz.underlying49, rfl, rfl, rfl, rfl, rfl, rfl, rfl, rfl, rfl, rfl, rfl, rfl, trivial⟩, rfl, by kernel_rfl, by kernel_rfl⟩
  rcases ht with rfl | ht
  · exact ⟨⟨rfl, _, Tryz.underlying61, rfl, rfl, by kernel_rfl⟩, rfl, by kernel_rfl, by kernel_rfl⟩
  rcases ht with rfl | ht
  · exact ⟨Tryz.underlying64, rfl, by kernel_rfl, by kernel_rfl⟩
  rcases ht with rfl | ht
  · exact ⟨⟨_, Tryz.underlying66, rfl, rfl, rfl, rfl, rfl, rfl, rfl, rfl, rfl, trivial⟩, rfl, by kernel_rfl, by kernel_rfl⟩
  rcases ht with rfl | ht
  · exact ⟨⟨_, Tryz.underlying82, rfl, rfl, rfl, rfl, rfl, rfl, rfl, rfl, rfl, trivial⟩, rfl, by kernel_rfl, by kernel_rfl⟩
  rcases ht with rfl | ht
  · exact ⟨⟨rfl, _, Tryz.underlying88, rfl, rfl, by kernel_rfl⟩, rfl, by kernel_rfl, by kernel_rfl⟩
  rcases ht with rfl | ht
  · exact ⟨⟨_, Tryz.underlying93, rfl, rfl, rfl, rfl, rfl, rfl, trivial⟩, rfl, by kernel_rfl, by kernel_rfl⟩
  rcases ht with rfl | ht
  · exact ⟨⟨rfl, _, Tryz.underlying94, rfl, rfl, by kernel_rfl⟩, rfl, by kernel_rfl, by kernel_rfl⟩
  rcases ht with rfl | ht
  · exact ⟨⟨rfl, _, Tryz.underlying98, rfl, rfl, by kernel_rfl⟩, rfl, by kernel_rfl, by kernel_rfl⟩
  rcases ht with rfl | ht
  · exact ⟨⟨_, Tryz.underlying126, rfl, rfl, rfl, rfl, rfl, rfl, trivial⟩, rfl, by kernel_rfl, by kernel_rfl⟩
  rcases ht with rfl | ht
  · exact ⟨Tryz.underlying129, rfl, by kernel_rfl, by kernel_rfl⟩
  rcases ht with rfl | ht
  · exact ⟨⟨_, Tryz.underlying135⟩, rfl, by kernel_rfl, by kernel_rfl⟩
  cases ht
def h_spec_l1Cur_next : List (Nat × Hint) := [(7, .join [(0, ⟨[0], [(3, 0, (.int .i64))]⟩)])]
noncomputable def e_spec_l1Cur_next : Ent := mkE tysC 70 [] h_spec_l1Cur_next Tryz.f70 [(.iop, (.pair (.lst false (.int .u8)) (.pair (.int .i64) (.pair (.int .u64) .unit))))] true (.int .i64)
theorem ok_spec_l1Cur_next : e_spec_l1Cur_next.Ok Tryz.prog := mkE_ok envC ok_nil Tryz.func70 (by decide +kernel) (by kernel_rfl)
def h_spec_l1Cur_pick : List (Nat × Hint) := [(15, .join [(0, ⟨[1], [(0, 2, (.pair (.lst false (.int .u8)) (.pair (.int .i64) (.pair (.int .u64) .unit)))), (5, 0, (.int .i64))]⟩)])]
noncomputable def e_spec_l1Cur_pick : Ent := mkE tysC 36 [e_spec_l1Cur_next] h_spec_l1Cur_pick Tryz.f36 [(.iop, (.pair (.lst false (.int .u8)) (.pair (.int .i64) (.pair (.int .u64) .unit)))), (.vw, (.int .i64))] true (.int .i64)
theorem ok_spec_l1Cur_pick : e_spec_l1Cur_pick.Ok Tryz.prog := mkE_ok envC (ok_cons ok_spec_l1Cur_next ok_nil) Tryz.func36 (by decide +kernel) (by kernel_rfl)
def h_spec_l1Cur_one : List (Nat × Hint) := []
noncomputable def e_spec_l1Cur_one : Ent := mkE tysC 63 [e_spec_l1Cur_pick] h_spec_l1Cur_one Tryz.f63 [(.iop, (.pair (.lst false (.int .u8)) (.pair (.int .i64) (.pair (.int .u64) .unit)))), (.vw, (.int .i64))] true .bool
theorem ok_spec_l1Cur_one : e_spec_l1Cur_one.Ok Tryz.prog := mkE_ok envC (ok_cons ok_spec_l1Cur_pick ok_nil) Tryz.func63 (by decide +kernel) (by kernel_rfl)
def h_spec_l1Cur_of : List (Nat × Hint) := []
noncomputable def e_spec_l1Cur_of : Ent := mkE tysC 64 [e_spec_l1Cur_pick] h_spec_l1Cur_of Tryz.f64 [(.iop, (.pair (.lst false (.int .u8)) (.pair (.int .i64) (.pair (.int .u64) .unit)))), (.vw, (.lst false .str))] true .str
theorem ok_spec_l1Cur_of : e_spec_l1Cur_of.Ok Tryz.prog := mkE_ok envC (ok_cons ok_spec_l1Cur_pick ok_nil) Tryz.func64 (by decide +kernel) (by kernel_rfl)
def h_spec_l1Cur_among : List (Nat × Hint) := []
noncomputable def e_spec_l1Cur_among : Ent := mkE tysC 65 [e_spec_l1Cur_pick] h_spec_l1Cur_among Tryz.f65 [(.iop, (.pair (.lst false (.int .u8)) (.pair (.int .i64) (.pair (.int .u64) .unit)))), (.vw, (.lst false (.int .i64)))] true (.int .i64)
theorem ok_spec_l1Cur_among : e_spec_l1Cur_among.Ok Tryz.prog := mkE_ok envC (ok_cons ok_spec_l1Cur_pick ok_nil) Tryz.func65 (by decide +kernel) (by kernel_rfl)
def h_spec_l1Cur_policy : List (Nat × Hint) := [(63, .join [(0, ⟨[2], [(0, 2, (.pair (.lst false (.int .u8)) (.pair (.int .i64) (.pair (.int .u64) .unit)))), (3, 2, (.pair .str (.pair (.lst true (.pair .str (.pair .str (.pair (.int .i64) (.pair (.int .i64) .unit))))) .unit)))]⟩)]), (124, .loop ⟨[2], [(0, 2, (.pair (.lst false (.int .u8)) (.pair (.int .i64) (.pair (.int .u64) .unit)))), (3, 2, (.pair .str (.pair (.lst true (.pair .str (.pair .str (.pair (.int .i64) (.pair (.int .i64) .unit))))) .unit))), (4, 0, (.int .i64))]⟩ [(2, ⟨[2], [(0, 2, (.pair (.lst false (.int .u8)) (.pair (.int .i64) (.pair (.int .u64) .unit)))), (3, 2, (.pair .str (.pair (.lst true (.pair .str (.pair .str (.pair (.int .i64) (.pair (.int .i64) .unit))))) .unit)))]⟩)]), (15, .join [(0, ⟨[2, 3], [(0, 2, (.pair (.lst false (.int .u8)) (.pair (.int .i64) (.pair (.int .u64) .unit)))), (4, 0, (.int .i64))]⟩)]), (0, .frz [21, 24, 42, 57])]
noncomputable def e_spec_l1Cur_policy : Ent := mkE tysC 34 [e_spec_l1Cur_pick, e_spec_l1Cur_one, e_spec_l1Cur_of, e_spec_l1Cur_among] h_spec_l1Cur_policy Tryz.f34 [(.iop, (.pair (.lst false (.int .u8)) (.pair (.int .i64) (.pair (.int .u64) .unit))))] true (.pair .str (.pair (.lst true (.pair .str (.pair .str (.pair (.int .i64) (.pair (.int .i64) .unit))))) .unit))
theorem ok_spec_l1Cur_policy : e_spec_l1Cur_policy.Ok Tryz.prog := mkE_ok envC (ok_cons ok_spec_l1Cur_pick (ok_cons ok_spec_l1Cur_one (ok_cons ok_spec_l1Cur_of (ok_cons ok_spec_l1Cur_among ok_nil)))) Tryz.func34 (by decide +kernel) (by kernel_rfl)
def h_spec_l1Cur_hosts : List (Nat × Hint) := [(7, .join [(0, ⟨[], [(0, 2, (.pair (.lst false (.int .u8)) (.pair (.int .i64) (.pair (.int .u64) .unit)))), (3, 0, (.lst true .str))]⟩)]), (0, .frz [15, 3, 2])]
noncomputable def e_spec_l1Cur_hosts : Ent := mkE tysC 66 [e_spec_l1Cur_pick, e_spec_l1Cur_one, e_spec_l1Cur_of] h_spec_l1Cur_hosts Tryz.f66 [(.iop, (.pair (.lst false (.int .u8)) (.pair (.int .i64) (.pair (.int .u64) .unit))))] true (.lst true .str)
theorem ok_spec_l1Cur_hosts : e_spec_l1Cur_hosts.Ok Tryz.prog := mkE_ok envC (ok_cons ok_spec_l1Cur_pick (ok_cons ok_spec_l1Cur_one (ok_cons ok_spec_l1Cur_of ok_nil))) Tryz.func66 (by decide +kernel) (by kernel_rfl)
def h_spec_l1Cur_probes : List (Nat × Hint) := [(63, .join [(0, ⟨[], [(0, 2, (.pair (.lst false (.int .u8)) (.pair (.int .i64) (.pair (.int .u64) .unit)))), (5, 0, (.lst true (.pair (.int .i64) (.pair .bool .unit))))]⟩)]), (126, .join [(0, ⟨[1, 5], [(0, 2, (.pair (.lst false (.int .u8)) (.pair (.int .i64) (.pair (.int .u64) .unit)))), (33, 0, .bool)]⟩)]), (124, .loop ⟨[1], [(0, 2, (.pair (.lst false (.int .u8)) (.pair (.int .i64) (.pair (.int .u64) .unit)))), (5, 0, (.lst true (.pair (.int .i64) (.pair .bool .unit)))), (6, 0, (.int .i64))]⟩ [(2, ⟨[1], [(0, 2, (.pair (.lst false (.int .u8)) (.pair (.int .i64) (.pair (.int .u64) .unit)))), (5, 0, (.lst true (.pair (.int .i64) (.pair .bool .unit))))]⟩)]), (15, .join [(0, ⟨[1, 5], [(0, 2, (.pair (.lst false (.int .u8)) (.pair (.int .i64) (.pair (.int .u64) .unit)))), (6, 0, (.int .i64))]⟩)]), (0, .frz [4])]
noncomputable def e_spec_l1Cur_probes : Ent := mkE tysC 67 [e_spec_l1Cur_pick, e_spec_l1Cur_one] h_spec_l1Cur_probes Tryz.f67 [(.iop, (.pair (.lst false (.int .u8)) (.pair (.int .i64) (.pair (.int .u64) .unit)))), (.vw, (.int .i64))] true (.lst true (.pair (.int .i64) (.pair .bool .unit)))
theorem ok_spec_l1Cur_probes : e_spec_l1Cur_probes.Ok Tryz.prog := mkE_ok envC (ok_cons ok_spec_l1Cur_pick (ok_cons ok_spec_l1Cur_one ok_nil)) Tryz.func67 (by decide +kernel) (by kernel_rfl)
def h_spec_l1In : List (Nat × Hint) := [(3, .join [(0, ⟨[], [(6, 0, .bool)]⟩)])]
noncomputable def e_spec_l1In : Ent := mkE tysC 49 [] h_spec_l1In Tryz.f49 [(.vw, (.int .i64)), (.vw, (.int .i64)), (.vw, (.int .i64))] true .bool
theorem ok_spec_l1In : e_spec_l1In.Ok Tryz.prog := mkE_ok envC ok_nil Tryz.func49 (by decide +kernel) (by kernel_rfl)
def h_spec_l1Split : List (Nat × Hint) := [(122, .loop ⟨[0, 1], [(5, 0, (.lst true .str)), (6, 0, (.int .i64)), (7, 0, (.int .i64))]⟩ [(2, ⟨[0], [(5, 0, (.lst true .str)), (6, 0, (.int .i64))]⟩)]), (489, .join [(0, ⟨[0, 1, 7], [(5, 0, (.lst true .str)), (6, 0, (.int .i64))]⟩)])]
noncomputable def e_spec_l1Split : Ent := mkE tysC 87 [] h_spec_l1Split Tryz.f87 [(.vw, .str), (.vw, (.int .u8))] true (.lst true .str)
theorem ok_spec_l1Split : e_spec_l1Split.Ok Tryz.prog := mkE_ok envC ok_nil Tryz.func87 (by decide +kernel) (by kernel_rfl)
def h_spec_l1Label : List (Nat × Hint) := [(58, .loop ⟨[0], [(3, 0, (.int .i64))]⟩ [(1, ⟨[2], []⟩), (2, ⟨[0], []⟩)]), (1865, .join [(0, ⟨[0, 3], [(38, 0, .bool)]⟩)])]
noncomputable def e_spec_l1Label : Ent := mkE tysC 109 [e_spec_l1In] h_spec_l1Label Tryz.f109 [(.vw, .str)] true .bool
theorem ok_spec_l1Label : e_spec_l1Label.Ok Tryz.prog := mkE_ok envC (ok_cons ok_spec_l1In ok_nil) Tryz.func109 (by decide +kernel) (by kernel_rfl)
def h_spec_l1Labels : List (Nat × Hint) := [(31, .join [(0, ⟨[], [(2, 0, (.lst true .str)), (3, 0, .bool)]⟩)]), (122, .loop ⟨[0, 4, 11, 12], [(13, 0, (.int .i64))]⟩ [(1, ⟨[2, 3], []⟩), (2, ⟨[0, 4], []⟩)])]
noncomputable def e_spec_l1Labels : Ent := mkE tysC 92 [e_spec_l1Split, e_spec_l1Label] h_spec_l1Labels Tryz.f92 [(.vw, .str)] false (.pair (.lst true .str) (.pair .bool .unit))
theorem ok_spec_l1Labels : e_spec_l1Labels.Ok Tryz.prog := mkE_ok envC (ok_cons ok_spec_l1Split (ok_cons ok_spec_l1Label ok_nil)) Tryz.func92 (by decide +kernel) (by kernel_rfl)
def h_spec_GoodName : List (Nat × Hint) := []
noncomputable def e_spec_GoodName : Ent := mkE tysC 48 [e_spec_l1Labels] h_spec_GoodName Tryz.f48 [(.vw, .str)] true .bool
theorem ok_spec_GoodName : e_spec_GoodName.Ok Tryz.prog := mkE_ok envC (ok_cons ok_spec_l1Labels ok_nil) Tryz.func48 (by decide +kernel) (by kernel_rfl)
def h_spec_l13Names : List (Nat × Hint) := [(26, .loop ⟨[0, 7, 8], [(9, 0, (.int .i64))]⟩ [(1, ⟨[], [(2, 0, .bool)]⟩), (2, ⟨[0], []⟩)]), (13518, .loop ⟨[0, 4, 7, 8, 9, 23, 24], [(25, 0, (.int .i64))]⟩ [(1, ⟨[], [(2, 0, .bool)]⟩), (4, ⟨[0, 7, 8, 9], []⟩)]), (3378, .join [(0, ⟨[0, 3, 4, 7, 8, 9], [(20, 0, .bool)]⟩)])]
noncomputable def e_spec_l13Names : Ent := mkE tysC 59 [e_spec_GoodName, e_spec_l1In] h_spec_l13Names Tryz.f59 [(.vw, (.lst false .str))] true .bool
theorem ok_spec_l13Names : e_spec_l13Names.Ok Tryz.prog := mkE_ok envC (ok_cons ok_spec_GoodName (ok_cons ok_spec_l1In ok_nil)) Tryz.func59 (by decide +kernel) (by kernel_rfl)
def h_spec_NewHealth : List (Nat × Hint) := [(122, .loop ⟨[6, 28, 29], [(8, 2, (.pair (.int .i64) (.pair (.int .i64) (.pair (.lst true (.pair .str (.pair .bool (.pair (.int .i64) .unit)))) .unit)))), (30, 0, (.int .i64))]⟩ [(2, ⟨[6], [(8, 2, (.pair (.int .i64) (.pair (.int .i64) (.pair (.lst true (.pair .str (.pair .bool (.pair (.int .i64) .unit)))) .unit))))]⟩)]), (6, .join [(0, ⟨[0, 1, 2, 6], [(23, 0, .bool)]⟩)])]
noncomputable def e_spec_NewHealth : Ent := mkE tysC 69 [e_spec_l1In, e_spec_l13Names] h_spec_NewHealth Tryz.f69 [(.vw, (.int .i64)), (.vw, (.int .i64)), (.vw, (.lst false .str))] false (.pair (.pair (.int .i64) (.pair (.int .i64) (.pair (.lst true (.pair .str (.pair .bool (.pair (.int .i64) .unit)))) .unit))) (.pair .bool .unit))
theorem ok_spec_NewHealth : e_spec_NewHealth.Ok Tryz.prog := mkE_ok envC (ok_cons ok_spec_l1In (ok_cons ok_spec_l13Names ok_nil)) Tryz.func69 (by decide +kernel) (by kernel_rfl)
def h_spec_l13Most : List (Nat × Hint) := []
noncomputable def e_spec_l13Most : Ent := mkE tysC 58 [] h_spec_l13Most Tryz.f58 [(.vw, (.pair (.int .i64) (.pair (.int .i64) (.pair (.lst false (.pair .str (.pair .bool (.pair (.int .i64) .unit)))) .unit)))), (.vw, (.pair .str (.pair .bool (.pair (.int .i64) .unit))))] true (.int .i64)
theorem ok_spec_l13Most : e_spec_l13Most.Ok Tryz.prog := mkE_ok envC ok_nil Tryz.func58 (by decide +kernel) (by kernel_rfl)
def h_spec_GoodHealth : List (Nat × Hint) := [(15, .join [(0, ⟨[], [(2, 0, .bool)]⟩)]), (58, .loop ⟨[1, 7, 8], [(3, 0, (.lst true .str)), (9, 0, (.int .i64))]⟩ [(1, ⟨[2], []⟩), (2, ⟨[1], [(3, 0, (.lst true .str))]⟩)])]
noncomputable def e_spec_GoodHealth : Ent := mkE tysC 28 [e_spec_l13Most, e_spec_l1In, e_spec_l13Names] h_spec_GoodHealth Tryz.f28 [(.vw, (.pair (.int .i64) (.pair (.int .i64) (.pair (.lst false (.pair .str (.pair .bool (.pair (.int .i64) .unit)))) .unit))))] true .bool
theorem ok_spec_GoodHealth : e_spec_GoodHealth.Ok Tryz.prog := mkE_ok envC (ok_cons ok_spec_l13Most (ok_cons ok_spec_l1In (ok_cons ok_spec_l13Names ok_nil))) Tryz.func28 (by decide +kernel) (by kernel_rfl)
def h_spec_l13Own : List (Nat × Hint) := []
noncomputable def e_spec_l13Own : Ent := mkE tysC 112 [] h_spec_l13Own Tryz.f112 [(.vw, (.pair (.int .i64) (.pair (.int .i64) (.pair (.lst false (.pair .str (.pair .bool (.pair (.int .i64) .unit)))) .unit))))] true (.pair (.int .i64) (.pair (.int .i64) (.pair (.lst true (.pair .str (.pair .bool (.pair (.int .i64) .unit)))) .unit)))
theorem ok_spec_l13Own : e_spec_l13Own.Ok Tryz.prog := mkE_ok envC ok_nil Tryz.func112 (by decide +kernel) (by kernel_rfl)
def h_spec_TakeProbe : List (Nat × Hint) := [(6, .join [(0, ⟨[2, 3, 4], [(20, 0, .bool)]⟩)])]
noncomputable def e_spec_TakeProbe : Ent := mkE tysC 99 [e_spec_GoodHealth, e_spec_l1In, e_spec_l13Own, e_spec_l13Most] h_spec_TakeProbe Tryz.f99 [(.vw, (.pair (.int .i64) (.pair (.int .i64) (.pair (.lst false (.pair .str (.pair .bool (.pair (.int .i64) .unit)))) .unit)))), (.vw, (.pair (.int .i64) (.pair .bool .unit)))] false (.pair (.pair (.int .i64) (.pair (.int .i64) (.pair (.lst true (.pair .str (.pair .bool (.pair (.int .i64) .unit)))) .unit))) (.pair .bool (.pair .bool .unit)))
theorem ok_spec_TakeProbe : e_spec_TakeProbe.Ok Tryz.prog := mkE_ok envC (ok_cons ok_spec_GoodHealth (ok_cons ok_spec_l1In (ok_cons ok_spec_l13Own (ok_cons ok_spec_l13Most ok_nil)))) Tryz.func99 (by decide +kernel) (by kernel_rfl)
def h_spec_PlayProbes : List (Nat × Hint) := [(250, .loop ⟨[8, 34, 35], [(11, 2, (.pair (.int .i64) (.pair (.int .i64) (.pair (.lst true (.pair .str (.pair .bool (.pair (.int .i64) .unit)))) .unit)))), (13, 0, (.int .i64)), (36, 0, (.int .i64))]⟩ [(1, ⟨[], [(8, 2, (.pair (.int .i64) (.pair (.int .i64) (.pair (.lst true (.pair .str (.pair .bool (.pair (.int .i64) .unit)))) .unit)))), (9, 0, (.int .i64)), (10, 0, .bool)]⟩), (2, ⟨[8], [(11, 2, (.pair (.int .i64) (.pair (.int .i64) (.pair (.lst true (.pair .str (.pair .bool (.pair (.int .i64) .unit)))) .unit)))), (13, 0, (.int .i64))]⟩)]), (2003, .join [(0, ⟨[8, 34, 35, 36], [(11, 2, (.pair (.int .i64) (.pair (.int .i64) (.pair (.lst true (.pair .str (.pair .bool (.pair (.int .i64) .unit)))) .unit)))), (13, 0, (.int .i64))]⟩), (1, ⟨[], [(8, 2, (.pair (.int .i64) (.pair (.int .i64) (.pair (.lst true (.pair .str (.pair .bool (.pair (.int .i64) .unit)))) .unit)))), (9, 0, (.int .i64)), (10, 0, .bool)]⟩)]), (14, .join [(0, ⟨[3, 8, 11], [(32, 0, .bool)]⟩)])]
noncomputable def e_spec_PlayProbes : Ent := mkE tysC 68 [e_spec_NewHealth, e_spec_TakeProbe] h_spec_PlayProbes Tryz.f68 [(.vw, (.int .i64)), (.vw, (.int .i64)), (.vw, (.lst false .str)), (.vw, (.lst false (.pair (.int .i64) (.pair .bool .unit))))] false (.pair (.pair (.int .i64) (.pair (.int .i64) (.pair (.lst true (.pair .str (.pair .bool (.pair (.int .i64) .unit)))) .unit))) (.pair (.int .i64) (.pair .bool .unit)))
theorem ok_spec_PlayProbes : e_spec_PlayProbes.Ok Tryz.prog := mkE_ok envC (ok_cons ok_spec_NewHealth (ok_cons ok_spec_TakeProbe ok_nil)) Tryz.func68 (by decide +kernel) (by kernel_rfl)
def h_spec_l1Cur_health : List (Nat × Hint) := [(127, .join [(0, ⟨[2], [(0, 2, (.pair (.lst false (.int .u8)) (.pair (.int .i64) (.pair (.int .u64) .unit)))), (5, 2, (.pair (.int .i64) (.pair (.int .i64) (.pair (.lst true (.pair .str (.pair .bool (.pair (.int .i64) .unit)))) .unit))))]⟩)]), (63, .join [(0, ⟨[0, 2], [(5, 2, (.pair (.int .i64) (.pair (.int .i64) (.pair (.lst true (.pair .str (.pair .bool (.pair (.int .i64) .unit)))) .unit))))]⟩)]), (15, .join [(0, ⟨[0, 2, 3], [(4, 0, (.lst true (.pair (.int .i64) (.pair .bool .unit))))]⟩)])]
noncomputable def e_spec_l1Cur_health : Ent := mkE tysC 35 [e_spec_l1Cur_hosts, e_spec_l1Cur_probes, e_spec_l1Cur_pick, e_spec_PlayProbes, e_spec_NewHealth, e_spec_l1Cur_one] h_spec_l1Cur_health Tryz.f35 [(.iop, (.pair (.lst false (.int .u8)) (.pair (.int .i64) (.pair (.int .u64) .unit))))] true (.pair (.int .i64) (.pair (.int .i64) (.pair (.lst true (.pair .str (.pair .bool (.pair (.int .i64) .unit)))) .unit)))
theorem ok_spec_l1Cur_health : e_spec_l1Cur_health.Ok Tryz.prog := mkE_ok envC (ok_cons ok_spec_l1Cur_hosts (ok_cons ok_spec_l1Cur_probes (ok_cons ok_spec_l1Cur_pick (ok_cons ok_spec_PlayProbes (ok_cons ok_spec_NewHealth (ok_cons ok_spec_l1Cur_one ok_nil)))))) Tryz.func35 (by decide +kernel) (by kernel_rfl)
def h_spec_DrawGroupOf : List (Nat × Hint) := []
noncomputable def e_spec_DrawGroupOf : Ent := mkE tysC 24 [e_spec_l1Cur_policy, e_spec_l1Cur_health] h_spec_DrawGroupOf Tryz.f24 [(.vw, (.lst false (.int .u8)))] false (.pair (.pair .str (.pair (.lst true (.pair .str (.pair .str (.pair (.int .i64) (.pair (.int .i64) .unit))))) .unit)) (.pair (.pair (.int .i64) (.pair (.int .i64) (.pair (.lst true (.pair .str (.pair .bool (.pair (.int .i64) .unit)))) .unit))) .unit))
theorem ok_spec_DrawGroupOf : e_spec_DrawGroupOf.Ok Tryz.prog := mkE_ok envC (ok_cons ok_spec_l1Cur_policy (ok_cons ok_spec_l1Cur_health ok_nil)) Tryz.func24 (by decide +kernel) (by kernel_rfl)
def h_spec_DrawSharesOf : List (Nat × Hint) := []
noncomputable def e_spec_DrawSharesOf : Ent := mkE tysC 5 [e_spec_DrawGroupOf] h_spec_DrawSharesOf Tryz.f5 [(.vw, (.lst false (.int .u8)))] false (.pair (.pair .str (.pair (.lst true (.pair .str (.pair .str (.pair (.int .i64) (.pair (.int .i64) .unit))))) .unit)) (.pair (.pair (.int .i64) (.pair (.int .i64) (.pair (.lst true (.pair .str (.pair .bool (.pair (.int .i64) .unit)))) .unit))) .unit))
theorem ok_spec_DrawSharesOf : e_spec_DrawSharesOf.Ok Tryz.prog := mkE_ok envC (ok_cons ok_spec_DrawGroupOf ok_nil) Tryz.func5 (by decide +kernel) (by kernel_rfl)
noncomputable abbrev e_strings_Split : Ent := splitE 79
theorem ok_strings_Split : e_strings_Split.Ok Tryz.prog := splitE_ok Tryz.l146 (by kernel_rfl) Tryz.func79 (by decide +kernel) rfl glbMaxLen
def h_impl_labelsOf : List (Nat × Hint) := []
noncomputable def e_impl_labelsOf : Ent := mkE tysC 74 [e_strings_Split] h_impl_labelsOf Tryz.f74 [(.vw, .str)] true (.lst true .str)
theorem ok_impl_labelsOf : e_impl_labelsOf.Ok Tryz.prog := mkE_ok envC (ok_cons ok_strings_Split ok_nil) Tryz.func74 (by decide +kernel) (by kernel_rfl)
def h_impl_within : List (Nat × Hint) := [(3, .join [(0, ⟨[], [(6, 0, .bool)]⟩)])]
noncomputable def e_impl_within : Ent := mkE tysC 43 [] h_impl_within Tryz.f43 [(.vw, (.int .i64)), (.vw, (.int .i64)), (.vw, (.int .i64))] true .bool
theorem ok_impl_within : e_impl_within.Ok Tryz.prog := mkE_ok envC ok_nil Tryz.func43 (by decide +kernel) (by kernel_rfl)
noncomputable abbrev e_strings_Trim : Ent := trimE 102
theorem ok_strings_Trim : e_strings_Trim.Ok Tryz.prog := trimE_ok Tryz.l160 (by kernel_rfl) (by kernel_rfl) Tryz.func102 (by decide +kernel) rfl
def h_impl_isLabel : List (Nat × Hint) := [(7, .join [(0, ⟨[], [(2, 0, .bool)]⟩)])]
noncomputable def e_impl_isLabel : Ent := mkE tysC 77 [e_impl_within, e_strings_Trim] h_impl_isLabel Tryz.f77 [(.vw, .str)] true .bool
theorem ok_impl_isLabel : e_impl_isLabel.Ok Tryz.prog := mkE_ok envC (ok_cons ok_impl_within (ok_cons ok_strings_Trim ok_nil)) Tryz.func77 (by decide +kernel) (by kernel_rfl)
def h_impl_GoodName_1 : List (Nat × Hint) := []
noncomputable def e_impl_GoodName_1 : Ent := mkE tysC 76 [e_impl_isLabel] h_impl_GoodName_1 Tryz.f76 [(.vw, .str)] true .bool
theorem ok_impl_GoodName_1 : e_impl_GoodName_1.Ok Tryz.prog := mkE_ok envC (ok_cons ok_impl_isLabel ok_nil) Tryz.func76 (by decide +kernel) (by kernel_rfl)
def h_slices_IndexFunc_string_string__impl_GoodName_1 : List (Nat × Hint) := [(26, .loop ⟨[0, 1, 7], [(8, 0, (.int .i64))]⟩ [(1, ⟨[], [(4, 0, (.int .i64))]⟩), (2, ⟨[], []⟩)])]
noncomputable def e_slices_IndexFunc_string_string__impl_GoodName_1 : Ent := mkE tysC 101 [e_impl_GoodName_1] h_slices_IndexFunc_string_string__impl_GoodName_1 Tryz.f101 [(.vw, (.lst false .str)), (.vw, (.fn 76 .unit))] true (.int .i64)
theorem ok_slices_IndexFunc_string_string__impl_GoodName_1 : e_slices_IndexFunc_string_string__impl_GoodName_1.Ok Tryz.prog := mkE_ok envC (ok_cons ok_impl_GoodName_1 ok_nil) Tryz.func101 (by decide +kernel) (by kernel_rfl)
def h_slices_ContainsFunc_string_string__impl_GoodName_1 : List (Nat × Hint) := []
noncomputable def e_slices_ContainsFunc_string_string__impl_GoodName_1 : Ent := mkE tysC 75 [e_slices_IndexFunc_string_string__impl_GoodName_1] h_slices_ContainsFunc_string_string__impl_GoodName_1 Tryz.f75 [(.vw, (.lst false .str)), (.vw, (.fn 76 .unit))] true .bool
theorem ok_slices_ContainsFunc_string_string__impl_GoodName_1 : e_slices_ContainsFunc_string_string__impl_GoodName_1.Ok Tryz.prog := mkE_ok envC (ok_cons ok_slices_IndexFunc_string_string__impl_GoodName_1 ok_nil) Tryz.func75 (by decide +kernel) (by kernel_rfl)
def h_impl_GoodName : List (Nat × Hint) := [(15, .join [(0, ⟨[], [(2, 0, .bool)]⟩)])]
noncomputable def e_impl_GoodName : Ent := mkE tysC 42 [e_impl_labelsOf, e_slices_ContainsFunc_string_string__impl_GoodName_1] h_impl_GoodName Tryz.f42 [(.vw, .str)] true .bool
theorem ok_impl_GoodName : e_impl_GoodName.Ok Tryz.prog := mkE_ok envC (ok_cons ok_impl_labelsOf (ok_cons ok_slices_ContainsFunc_string_string__impl_GoodName_1 ok_nil)) Tryz.func42 (by decide +kernel) (by kernel_rfl)
noncomputable abbrev e_strconv_Atoi : Ent := atoiE 104
theorem ok_strconv_Atoi : e_strconv_Atoi.Ok Tryz.prog := atoiE_ok Tryz.l172 (by kernel_rfl) Tryz.func104 (by decide +kernel) rfl glbSyn glbRng
noncomputable abbrev e_strconv_Itoa : Ent := itoaE 105
theorem ok_strconv_Itoa : e_strconv_Itoa.Ok Tryz.prog := itoaE_ok Tryz.l171 (by kernel_rfl) Tryz.func105 (by decide +kernel) rfl (by kernel_rfl) glbPow
def h_impl_numberIn : List (Nat × Hint) := [(7, .join [(0, ⟨[], [(4, 0, (.int .i64)), (5, 0, .bool)]⟩)])]
noncomputable def e_impl_numberIn : Ent := mkE tysC 80 [e_strconv_Atoi, e_impl_within, e_strconv_Itoa] h_impl_numberIn Tryz.f80 [(.vw, .str), (.vw, (.int .i64))] false (.pair (.int .i64) (.pair .bool .unit))
theorem ok_impl_numberIn : e_impl_numberIn.Ok Tryz.prog := mkE_ok envC (ok_cons ok_strconv_Atoi (ok_cons ok_impl_within (ok_cons ok_strconv_Itoa ok_nil))) Tryz.func80 (by decide +kernel) (by kernel_rfl)
def h_impl_big : List (Nat × Hint) := [(58, .loop ⟨[0], [(5, 0, (.lst true (.int .u8))), (6, 0, (.int .i64))]⟩ [(2, ⟨[], [(5, 0, (.lst true (.int .u8)))]⟩)])]
noncomputable def e_impl_big : Ent := mkE tysC 81 [] h_impl_big Tryz.f81 [(.vw, (.int .i64)), (.vw, (.int .i64))] true .str
theorem ok_impl_big : e_impl_big.Ok Tryz.prog := mkE_ok envC ok_nil Tryz.func81 (by decide +kernel) (by kernel_rfl)
noncomputable abbrev e_strings_Contains : Ent := containsE 106
theorem ok_strings_Contains : e_strings_Contains.Ok Tryz.prog := containsE_ok Tryz.l144 (by kernel_rfl) Tryz.func106 (by decide +kernel) rfl glbMaxLen
def h_impl_isTarget : List (Nat × Hint) := [(3, .join [(0, ⟨[], [(2, 0, .bool)]⟩)])]
noncomputable def e_impl_isTarget : Ent := mkE tysC 82 [e_impl_GoodName, e_strings_Contains] h_impl_isTarget Tryz.f82 [(.vw, .str)] true .bool
theorem ok_impl_isTarget : e_impl_isTarget.Ok Tryz.prog := mkE_ok envC (ok_cons ok_impl_GoodName (ok_cons ok_strings_Contains ok_nil)) Tryz.func82 (by decide +kernel) (by kernel_rfl)
def h_impl_labelBytes : List (Nat × Hint) := [(58, .loop ⟨[7, 8], [(3, 0, .str), (9, 0, (.int .i64))]⟩ [(2, ⟨[], [(3, 0, .str)]⟩)])]
noncomputable def e_impl_labelBytes : Ent := mkE tysC 83 [e_impl_labelsOf] h_impl_labelBytes Tryz.f83 [(.vw, .str)] true .str
theorem ok_impl_labelBytes : e_impl_labelBytes.Ok Tryz.prog := mkE_ok envC (ok_cons ok_impl_labelsOf ok_nil) Tryz.func83 (by decide +kernel) (by kernel_rfl)
noncomputable abbrev e_strings_Cut : Ent := cutE 84
theorem ok_strings_Cut : e_strings_Cut.Ok Tryz.prog := cutE_ok Tryz.l145 (by kernel_rfl) Tryz.func84 (by decide +kernel) rfl glbMaxLen
def h_impl_DataBytes_1 : List (Nat × Hint) := [(3, .join [(0, ⟨[], [(2, 0, .bool)]⟩)])]
noncomputable def e_impl_DataBytes_1 : Ent := mkE tysC 86 [] h_impl_DataBytes_1 Tryz.f86 [(.vw, (.int .u8))] true .bool
theorem ok_impl_DataBytes_1 : e_impl_DataBytes_1.Ok Tryz.prog := mkE_ok envC ok_nil Tryz.func86 (by decide +kernel) (by kernel_rfl)
def h_slices_IndexFunc_byte_byte__impl_DataBytes_1 : List (Nat × Hint) := [(26, .loop ⟨[0, 1, 7], [(8, 0, (.int .i64))]⟩ [(1, ⟨[], [(4, 0, (.int .i64))]⟩), (2, ⟨[], []⟩)])]
noncomputable def e_slices_IndexFunc_byte_byte__impl_DataBytes_1 : Ent := mkE tysC 108 [e_impl_DataBytes_1] h_slices_IndexFunc_byte_byte__impl_DataBytes_1 Tryz.f108 [(.vw, (.lst false (.int .u8))), (.vw, (.fn 86 .unit))] true (.int .i64)
theorem ok_slices_IndexFunc_byte_byte__impl_DataBytes_1 : e_slices_IndexFunc_byte_byte__impl_DataBytes_1.Ok Tryz.prog := mkE_ok envC (ok_cons ok_impl_DataBytes_1 ok_nil) Tryz.func108 (by decide +kernel) (by kernel_rfl)
def h_slices_ContainsFunc_byte_byte__impl_DataBytes_1 : List (Nat × Hint) := []
noncomputable def e_slices_ContainsFunc_byte_byte__impl_DataBytes_1 : Ent := mkE tysC 85 [e_slices_IndexFunc_byte_byte__impl_DataBytes_1] h_slices_ContainsFunc_byte_byte__impl_DataBytes_1 Tryz.f85 [(.vw, (.lst false (.int .u8))), (.vw, (.fn 86 .unit))] true .bool
theorem ok_slices_ContainsFunc_byte_byte__impl_DataBytes_1 : e_slices_ContainsFunc_byte_byte__impl_DataBytes_1.Ok Tryz.prog := mkE_ok envC (ok_cons ok_slices_IndexFunc_byte_byte__impl_DataBytes_1 ok_nil) Tryz.func85 (by decide +kernel) (by kernel_rfl)
def h_impl_DataBytes : List (Nat × Hint) := [(55292, .join [(0, ⟨[1], [(103, 0, .bool)]⟩)]), (55286, .join [(0, ⟨[15, 17], [(87, 0, .bool)]⟩)]), (107, .join [(0, ⟨[1, 19], [(48, 0, .bool)]⟩)]), (3418, .loop ⟨[7, 24, 25], [(6, 0, .str), (26, 0, (.int .i64))]⟩ [(1, ⟨[4, 5], []⟩), (3, ⟨[], [(6, 0, .str)]⟩)]), (875110, .join [(0, ⟨[6, 7, 10, 24, 25, 26], [(41, 0, .bool)]⟩)])]
noncomputable def e_impl_DataBytes : Ent := mkE tysC 46 [e_strings_Split, e_impl_numberIn, e_impl_big, e_impl_isTarget, e_impl_labelBytes, e_strings_Cut, e_slices_ContainsFunc_byte_byte__impl_DataBytes_1] h_impl_DataBytes Tryz.f46 [(.vw, (.int .i64)), (.vw, .str)] false (.pair .str (.pair .bool .unit))
theorem ok_impl_DataBytes : e_impl_DataBytes.Ok Tryz.prog := mkE_ok envC (ok_cons ok_strings_Split (ok_cons ok_impl_numberIn (ok_cons ok_impl_big (ok_cons ok_impl_isTarget (ok_cons ok_impl_labelBytes (ok_cons ok_strings_Cut (ok_cons ok_slices_ContainsFunc_byte_byte__impl_DataBytes_1 ok_nil))))))) Tryz.func46 (by decide +kernel) (by kernel_rfl)
def h_impl_GoodPolicy_1 : List (Nat × Hint) := [(7, .join [(0, ⟨[], [(2, 0, .bool)]⟩)])]
noncomputable def e_impl_GoodPolicy_1 : Ent := mkE tysC 45 [e_impl_DataBytes, e_impl_GoodName, e_impl_within] h_impl_GoodPolicy_1 Tryz.f45 [(.vw, (.pair .str (.pair .str (.pair (.int .i64) (.pair (.int .i64) .unit)))))] true .bool
theorem ok_impl_GoodPolicy_1 : e_impl_GoodPolicy_1.Ok Tryz.prog := mkE_ok envC (ok_cons ok_impl_DataBytes (ok_cons ok_impl_GoodName (ok_cons ok_impl_within ok_nil))) Tryz.func45 (by decide +kernel) (by kernel_rfl)
def h_slices_IndexFunc_impl_Target_impl_Target__impl_GoodPolicy_1 : List (Nat × Hint) := [(26, .loop ⟨[0, 1, 7], [(8, 0, (.int .i64))]⟩ [(1, ⟨[], [(4, 0, (.int .i64))]⟩), (2, ⟨[], []⟩)])]
noncomputable def e_slices_IndexFunc_impl_Target_impl_Target__impl_GoodPolicy_1 : Ent := mkE tysC 78 [e_impl_GoodPolicy_1] h_slices_IndexFunc_impl_Target_impl_Target__impl_GoodPolicy_1 Tryz.f78 [(.vw, (.lst false (.pair .str (.pair .str (.pair (.int .i64) (.pair (.int .i64) .unit)))))), (.vw, (.fn 45 .unit))] true (.int .i64)
theorem ok_slices_IndexFunc_impl_Target_impl_Target__impl_GoodPolicy_1 : e_slices_IndexFunc_impl_Target_impl_Target__impl_GoodPolicy_1.Ok Tryz.prog := mkE_ok envC (ok_cons ok_impl_GoodPolicy_1 ok_nil) Tryz.func78 (by decide +kernel) (by kernel_rfl)
def h_slices_ContainsFunc_impl_Target_impl_Target__impl_GoodPolicy_1 : List (Nat × Hint) := []
noncomputable def e_slices_ContainsFunc_impl_Target_impl_Target__impl_GoodPolicy_1 : Ent := mkE tysC 44 [e_slices_IndexFunc_impl_Target_impl_Target__impl_GoodPolicy_1] h_slices_ContainsFunc_impl_Target_impl_Target__impl_GoodPolicy_1 Tryz.f44 [(.vw, (.lst false (.pair .str (.pair .str (.pair (.int .i64) (.pair (.int .i64) .unit)))))), (.vw, (.fn 45 .unit))] true .bool
theorem ok_slices_ContainsFunc_impl_Target_impl_Target__impl_GoodPolicy_1 : e_slices_ContainsFunc_impl_Target_impl_Target__impl_GoodPolicy_1.Ok Tryz.prog := mkE_ok envC (ok_cons ok_slices_IndexFunc_impl_Target_impl_Target__impl_GoodPolicy_1 ok_nil) Tryz.func44 (by decide +kernel) (by kernel_rfl)
def h_impl_GoodPolicy : List (Nat × Hint) := [(3, .join [(0, ⟨[], [(2, 0, .bool)]⟩)])]
noncomputable def e_impl_GoodPolicy : Ent := mkE tysC 16 [e_impl_GoodName, e_impl_within, e_slices_ContainsFunc_impl_Target_impl_Target__impl_GoodPolicy_1] h_impl_GoodPolicy Tryz.f16 [(.vw, (.pair .str (.pair (.lst false (.pair .str (.pair .str (.pair (.int .i64) (.pair (.int .i64) .unit))))) .unit)))] true .bool
theorem ok_impl_GoodPolicy : e_impl_GoodPolicy.Ok Tryz.prog := mkE_ok envC (ok_cons ok_impl_GoodName (ok_cons ok_impl_within (ok_cons ok_slices_ContainsFunc_impl_Target_impl_Target__impl_GoodPolicy_1 ok_nil))) Tryz.func16 (by decide +kernel) (by kernel_rfl)
def h_impl_Health_mostRow : List (Nat × Hint) := []
noncomputable def e_impl_Health_mostRow : Ent := mkE tysC 54 [] h_impl_Health_mostRow Tryz.f54 [(.vw, (.pair (.int .i64) (.pair (.int .i64) (.pair (.lst false (.pair .str (.pair .bool (.pair (.int .i64) .unit)))) .unit)))), (.vw, (.pair .str (.pair .bool (.pair (.int .i64) .unit))))] true (.int .i64)
theorem ok_impl_Health_mostRow : e_impl_Health_mostRow.Ok Tryz.prog := mkE_ok envC ok_nil Tryz.func54 (by decide +kernel) (by kernel_rfl)
def h_impl_GoodHealth_1 : List (Nat × Hint) := []
noncomputable def e_impl_GoodHealth_1 : Ent := mkE tysC 56 [] h_impl_GoodHealth_1 Tryz.f56 [(.vw, (.pair .str (.pair .bool (.pair (.int .i64) .unit)))), (.vw, (.ptr (.pair .str (.pair .bool (.pair (.int .i64) .unit)))))] true .bool
theorem ok_impl_GoodHealth_1 : e_impl_GoodHealth_1.Ok Tryz.prog := mkE_ok envC ok_nil Tryz.func56 (by decide +kernel) (by kernel_rfl)
def h_slices_IndexFunc_impl_Host_impl_Host__impl_GoodHealth_1 : List (Nat × Hint) := [(26, .loop ⟨[0, 1, 7], [(8, 0, (.int .i64))]⟩ [(1, ⟨[], [(4, 0, (.int .i64))]⟩), (2, ⟨[], []⟩)])]
noncomputable def e_slices_IndexFunc_impl_Host_impl_Host__impl_GoodHealth_1 : Ent := mkE tysC 93 [e_impl_GoodHealth_1] h_slices_IndexFunc_impl_Host_impl_Host__impl_GoodHealth_1 Tryz.f93 [(.vw, (.lst false (.pair .str (.pair .bool (.pair (.int .i64) .unit))))), (.vw, (.fn 56 (.pair (.ptr (.pair .str (.pair .bool (.pair (.int .i64) .unit)))) .unit)))] true (.int .i64)
theorem ok_slices_IndexFunc_impl_Host_impl_Host__impl_GoodHealth_1 : e_slices_IndexFunc_impl_Host_impl_Host__impl_GoodHealth_1.Ok Tryz.prog := mkE_ok envC (ok_cons ok_impl_GoodHealth_1 ok_nil) Tryz.func93 (by decide +kernel) (by kernel_rfl)
def h_slices_ContainsFunc_impl_Host_impl_Host__impl_GoodHealth_1 : List (Nat × Hint) := []
noncomputable def e_slices_ContainsFunc_impl_Host_impl_Host__impl_GoodHealth_1 : Ent := mkE tysC 55 [e_slices_IndexFunc_impl_Host_impl_Host__impl_GoodHealth_1] h_slices_ContainsFunc_impl_Host_impl_Host__impl_GoodHealth_1 Tryz.f55 [(.vw, (.lst false (.pair .str (.pair .bool (.pair (.int .i64) .unit))))), (.vw, (.fn 56 (.pair (.ptr (.pair .str (.pair .bool (.pair (.int .i64) .unit)))) .unit)))] true .bool
theorem ok_slices_ContainsFunc_impl_Host_impl_Host__impl_GoodHealth_1 : e_slices_ContainsFunc_impl_Host_impl_Host__impl_GoodHealth_1.Ok Tryz.prog := mkE_ok envC (ok_cons ok_slices_IndexFunc_impl_Host_impl_Host__impl_GoodHealth_1 ok_nil) Tryz.func55 (by decide +kernel) (by kernel_rfl)
def h_impl_GoodHealth : List (Nat × Hint) := [(58, .loop ⟨[1, 23, 24], [(25, 0, (.int .i64))]⟩ [(1, ⟨[], [(2, 0, .bool)]⟩), (2, ⟨[], []⟩)]), (3737, .join [(0, ⟨[1, 23, 24, 25], [(56, 0, .bool)]⟩)]), (6, .join [(0, ⟨[1], [(21, 0, .bool)]⟩)])]
noncomputable def e_impl_GoodHealth : Ent := mkE tysC 25 [e_impl_within, e_impl_GoodName, e_impl_Health_mostRow, e_slices_ContainsFunc_impl_Host_impl_Host__impl_GoodHealth_1] h_impl_GoodHealth Tryz.f25 [(.vw, (.pair (.int .i64) (.pair (.int .i64) (.pair (.lst false (.pair .str (.pair .bool (.pair (.int .i64) .unit)))) .unit))))] true .bool
theorem ok_impl_GoodHealth : e_impl_GoodHealth.Ok Tryz.prog := mkE_ok envC (ok_cons ok_impl_within (ok_cons ok_impl_GoodName (ok_cons ok_impl_Health_mostRow (ok_cons ok_slices_ContainsFunc_impl_Host_impl_Host__impl_GoodHealth_1 ok_nil)))) Tryz.func25 (by decide +kernel) (by kernel_rfl)
noncomputable abbrev e_slices_Sort_int_int : Ent := sortE 95
theorem ok_slices_Sort_int_int : e_slices_Sort_int_int.Ok Tryz.prog := sortE_ok Tryz.l189 (by kernel_rfl) Tryz.func95 (by decide +kernel) rfl
noncomputable abbrev e_slices_Compact_int_int : Ent := compactE 96
theorem ok_slices_Compact_int_int : e_slices_Compact_int_int.Ok Tryz.prog := compactE_ok Tryz.l20 (by kernel_rfl) Tryz.func96 (by decide +kernel) rfl
def h_impl_groupsIn : List (Nat × Hint) := [(58, .loop ⟨[8, 9], [(3, 0, (.lst true (.int .i64))), (10, 0, (.int .i64))]⟩ [(2, ⟨[], [(3, 0, (.lst true (.int .i64)))]⟩)])]
noncomputable def e_impl_groupsIn : Ent := mkE tysC 52 [e_slices_Sort_int_int, e_slices_Compact_int_int] h_impl_groupsIn Tryz.f52 [(.vw, (.pair .str (.pair (.lst false (.pair .str (.pair .str (.pair (.int .i64) (.pair (.int .i64) .unit))))) .unit)))] true (.lst true (.int .i64))
theorem ok_impl_groupsIn : e_impl_groupsIn.Ok Tryz.prog := mkE_ok envC (ok_cons ok_slices_Sort_int_int (ok_cons ok_slices_Compact_int_int ok_nil)) Tryz.func52 (by decide +kernel) (by kernel_rfl)
def h_impl_Health_findHost_1 : List (Nat × Hint) := []
noncomputable def e_impl_Health_findHost_1 : Ent := mkE tysC 94 [] h_impl_Health_findHost_1 Tryz.f94 [(.vw, (.pair .str (.pair .bool (.pair (.int .i64) .unit)))), (.vw, (.ptr .str))] true .bool
theorem ok_impl_Health_findHost_1 : e_impl_Health_findHost_1.Ok Tryz.prog := mkE_ok envC ok_nil Tryz.func94 (by decide +kernel) (by kernel_rfl)
def h_slices_IndexFunc_impl_Host_impl_Host__impl_Health_findHost_1 : List (Nat × Hint) := [(26, .loop ⟨[0, 1, 7], [(8, 0, (.int .i64))]⟩ [(1, ⟨[], [(4, 0, (.int .i64))]⟩), (2, ⟨[], []⟩)])]
noncomputable def e_slices_IndexFunc_impl_Host_impl_Host__impl_Health_findHost_1 : Ent := mkE tysC 93 [e_impl_Health_findHost_1] h_slices_IndexFunc_impl_Host_impl_Host__impl_Health_findHost_1 Tryz.f93 [(.vw, (.lst false (.pair .str (.pair .bool (.pair (.int .i64) .unit))))), (.vw, (.fn 94 (.pair (.ptr .str) .unit)))] true (.int .i64)
theorem ok_slices_IndexFunc_impl_Host_impl_Host__impl_Health_findHost_1 : e_slices_IndexFunc_impl_Host_impl_Host__impl_Health_findHost_1.Ok Tryz.prog := mkE_ok envC (ok_cons ok_impl_Health_findHost_1 ok_nil) Tryz.func93 (by decide +kernel) (by kernel_rfl)
def h_impl_Health_findHost : List (Nat × Hint) := []
noncomputable def e_impl_Health_findHost : Ent := mkE tysC 50 [e_slices_IndexFunc_impl_Host_impl_Host__impl_Health_findHost_1] h_impl_Health_findHost Tryz.f50 [(.vw, (.pair (.int .i64) (.pair (.int .i64) (.pair (.lst false (.pair .str (.pair .bool (.pair (.int .i64) .unit)))) .unit)))), (.vw, .str)] true (.int .i64)
theorem ok_impl_Health_findHost : e_impl_Health_findHost.Ok Tryz.prog := mkE_ok envC (ok_cons ok_slices_IndexFunc_impl_Host_impl_Host__impl_Health_findHost_1 ok_nil) Tryz.func50 (by decide +kernel) (by kernel_rfl)
def h_impl_isWell : List (Nat × Hint) := [(7, .join [(0, ⟨[], [(4, 0, .bool)]⟩)])]
noncomputable def e_impl_isWell : Ent := mkE tysC 57 [e_impl_Health_findHost] h_impl_isWell Tryz.f57 [(.vw, (.pair (.int .i64) (.pair (.int .i64) (.pair (.lst false (.pair .str (.pair .bool (.pair (.int .i64) .unit)))) .unit)))), (.vw, (.pair .str (.pair .str (.pair (.int .i64) (.pair (.int .i64) .unit)))))] true .bool
theorem ok_impl_isWell : e_impl_isWell.Ok Tryz.prog := mkE_ok envC (ok_cons ok_impl_Health_findHost ok_nil) Tryz.func57 (by decide +kernel) (by kernel_rfl)
def h_impl_groupOf_1 : List (Nat × Hint) := [(3, .join [(0, ⟨[], [(4, 0, .bool)]⟩)])]
noncomputable def e_impl_groupOf_1 : Ent := mkE tysC 73 [e_impl_isWell] h_impl_groupOf_1 Tryz.f73 [(.vw, (.pair .str (.pair .str (.pair (.int .i64) (.pair (.int .i64) .unit))))), (.vw, (.ptr (.int .i64))), (.vw, (.ptr (.pair (.int .i64) (.pair (.int .i64) (.pair (.lst false (.pair .str (.pair .bool (.pair (.int .i64) .unit)))) .unit)))))] true .bool
theorem ok_impl_groupOf_1 : e_impl_groupOf_1.Ok Tryz.prog := mkE_ok envC (ok_cons ok_impl_isWell ok_nil) Tryz.func73 (by decide +kernel) (by kernel_rfl)
def h_slices_IndexFunc_impl_Target_impl_Target__impl_groupOf_1 : List (Nat × Hint) := [(26, .loop ⟨[0, 1, 7], [(8, 0, (.int .i64))]⟩ [(1, ⟨[], [(4, 0, (.int .i64))]⟩), (2, ⟨[], []⟩)])]
noncomputable def e_slices_IndexFunc_impl_Target_impl_Target__impl_groupOf_1 : Ent := mkE tysC 78 [e_impl_groupOf_1] h_slices_IndexFunc_impl_Target_impl_Target__impl_groupOf_1 Tryz.f78 [(.vw, (.lst false (.pair .str (.pair .str (.pair (.int .i64) (.pair (.int .i64) .unit)))))), (.vw, (.fn 73 (.pair (.ptr (.int .i64)) (.pair (.ptr (.pair (.int .i64) (.pair (.int .i64) (.pair (.lst false (.pair .str (.pair .bool (.pair (.int .i64) .unit)))) .unit)))) .unit))))] true (.int .i64)
theorem ok_slices_IndexFunc_impl_Target_impl_Target__impl_groupOf_1 : e_slices_IndexFunc_impl_Target_impl_Target__impl_groupOf_1.Ok Tryz.prog := mkE_ok envC (ok_cons ok_impl_groupOf_1 ok_nil) Tryz.func78 (by decide +kernel) (by kernel_rfl)
def h_slices_ContainsFunc_impl_Target_impl_Target__impl_groupOf_1 : List (Nat × Hint) := []
noncomputable def e_slices_ContainsFunc_impl_Target_impl_Target__impl_groupOf_1 : Ent := mkE tysC 44 [e_slices_IndexFunc_impl_Target_impl_Target__impl_groupOf_1] h_slices_ContainsFunc_impl_Target_impl_Target__impl_groupOf_1 Tryz.f44 [(.vw, (.lst false (.pair .str (.pair .str (.pair (.int .i64) (.pair (.int .i64) .unit)))))), (.vw, (.fn 73 (.pair (.ptr (.int .i64)) (.pair (.ptr (.pair (.int .i64) (.pair (.int .i64) (.pair (.lst false (.pair .str (.pair .bool (.pair (.int .i64) .unit)))) .unit)))) .unit))))] true .bool
theorem ok_slices_ContainsFunc_impl_Target_impl_Target__impl_groupOf_1 : e_slices_ContainsFunc_impl_Target_impl_Target__impl_groupOf_1.Ok Tryz.prog := mkE_ok envC (ok_cons ok_slices_IndexFunc_impl_Target_impl_Target__impl_groupOf_1 ok_nil) Tryz.func44 (by decide +kernel) (by kernel_rfl)
def h_impl_groupOf : List (Nat × Hint) := [(58, .loop ⟨[2, 3, 5, 10, 11], [(12, 0, (.int .i64))]⟩ [(1, ⟨[], [(4, 0, (.int .i64))]⟩), (2, ⟨[5], []⟩)])]
noncomputable def e_impl_groupOf : Ent := mkE tysC 40 [e_impl_groupsIn, e_slices_ContainsFunc_impl_Target_impl_Target__impl_groupOf_1] h_impl_groupOf Tryz.f40 [(.vw, (.pair .str (.pair (.lst false (.pair .str (.pair .str (.pair (.int .i64) (.pair (.int .i64) .unit))))) .unit))), (.vw, (.pair (.int .i64) (.pair (.int .i64) (.pair (.lst false (.pair .str (.pair .bool (.pair (.int .i64) .unit)))) .unit))))] true (.int .i64)
theorem ok_impl_groupOf : e_impl_groupOf.Ok Tryz.prog := mkE_ok envC (ok_cons ok_impl_groupsIn (ok_cons ok_slices_ContainsFunc_impl_Target_impl_Target__impl_groupOf_1 ok_nil)) Tryz.func40 (by decide +kernel) (by kernel_rfl)
def h_impl_candidatesOf : List (Nat × Hint) := [(122, .loop ⟨[3, 5, 16, 17], [(6, 0, (.lst true (.int .i64))), (7, 0, (.lst true (.int .i64))), (18, 0, (.int .i64))]⟩ [(2, ⟨[], [(6, 0, (.lst true (.int .i64))), (7, 0, (.lst true (.int .i64)))]⟩)]), (979, .join [(0, ⟨[3, 5, 16, 17, 18], [(6, 0, (.lst true (.int .i64))), (7, 0, (.lst true (.int .i64)))]⟩)]), (0, .frz [4])]
noncomputable def e_impl_candidatesOf : Ent := mkE tysC 26 [e_impl_groupOf, e_impl_isWell] h_impl_candidatesOf Tryz.f26 [(.vw, (.pair .str (.pair (.lst false (.pair .str (.pair .str (.pair (.int .i64) (.pair (.int .i64) .unit))))) .unit))), (.vw, (.pair (.int .i64) (.pair (.int .i64) (.pair (.lst false (.pair .str (.pair .bool (.pair (.int .i64) .unit)))) .unit))))] true (.lst true (.int .i64))
theorem ok_impl_candidatesOf : e_impl_candidatesOf.Ok Tryz.prog := mkE_ok envC (ok_cons ok_impl_groupOf (ok_cons ok_impl_isWell ok_nil)) Tryz.func26 (by decide +kernel) (by kernel_rfl)
def h_impl_totalOf : List (Nat × Hint) := [(58, .loop ⟨[6, 7], [(3, 0, (.int .i64)), (8, 0, (.int .i64))]⟩ [(2, ⟨[], [(3, 0, (.int .i64))]⟩)])]
noncomputable def e_impl_totalOf : Ent := mkE tysC 27 [] h_impl_totalOf Tryz.f27 [(.vw, (.lst false (.int .i64)))] true (.int .i64)
theorem ok_impl_totalOf : e_impl_totalOf.Ok Tryz.prog := mkE_ok envC ok_nil Tryz.func27 (by decide +kernel) (by kernel_rfl)
def h_impl_SharesOf : List (Nat × Hint) := [(122, .loop ⟨[2, 24, 25], [(7, 0, (.lst true (.int .i64))), (26, 0, (.int .i64))]⟩ [(2, ⟨[], [(7, 0, (.lst true (.int .i64)))]⟩)]), (6, .join [(0, ⟨[2, 3], [(17, 0, .bool)]⟩)]), (0, .frz [4])]
noncomputable def e_impl_SharesOf : Ent := mkE tysC 6 [e_impl_GoodPolicy, e_impl_GoodHealth, e_impl_candidatesOf, e_impl_totalOf] h_impl_SharesOf Tryz.f6 [(.vw, (.pair .str (.pair (.lst false (.pair .str (.pair .str (.pair (.int .i64) (.pair (.int .i64) .unit))))) .unit))), (.vw, (.pair (.int .i64) (.pair (.int .i64) (.pair (.lst false (.pair .str (.pair .bool (.pair (.int .i64) .unit)))) .unit))))] false (.pair (.lst true (.int .i64)) (.pair (.int .i64) (.pair .bool .unit)))
theorem ok_impl_SharesOf : e_impl_SharesOf.Ok Tryz.prog := mkE_ok envC (ok_cons ok_impl_GoodPolicy (ok_cons ok_impl_GoodHealth (ok_cons ok_impl_candidatesOf (ok_cons ok_impl_totalOf ok_nil)))) Tryz.func6 (by decide +kernel) (by kernel_rfl)
def h_spec_l1Int : List (Nat × Hint) := [(122, .loop ⟨[0], [(3, 0, (.int .i64)), (4, 0, (.int .i64))]⟩ [(1, ⟨[], [(2, 0, (.int .i64))]⟩), (2, ⟨[], [(3, 0, (.int .i64))]⟩)]), (3912, .join [(0, ⟨[0, 3, 4], [(34, 0, .bool)]⟩)]), (6, .join [(0, ⟨[0], [(18, 0, .bool)]⟩)])]
noncomputable def e_spec_l1Int : Ent := mkE tysC 88 [e_spec_l1In] h_spec_l1Int Tryz.f88 [(.vw, .str)] true (.int .i64)
theorem ok_spec_l1Int : e_spec_l1Int.Ok Tryz.prog := mkE_ok envC (ok_cons ok_spec_l1In ok_nil) Tryz.func88 (by decide +kernel) (by kernel_rfl)
def h_spec_l3Number : List (Nat × Hint) := [(58, .loop ⟨[], [(0, 0, (.int .i64)), (5, 0, (.lst true (.int .u8))), (6, 0, (.int .i64))]⟩ [(2, ⟨[], [(5, 0, (.lst true (.int .u8)))]⟩)])]
noncomputable def e_spec_l3Number : Ent := mkE tysC 89 [] h_spec_l3Number Tryz.f89 [(.vw, (.int .i64)), (.vw, (.int .i64))] true .str
theorem ok_spec_l3Number : e_spec_l3Number.Ok Tryz.prog := mkE_ok envC ok_nil Tryz.func89 (by decide +kernel) (by kernel_rfl)
def h_spec_l3Target : List (Nat × Hint) := [(15, .join [(0, ⟨[], [(2, 0, .bool)]⟩)]), (58, .loop ⟨[0, 3, 12, 13], [(4, 0, .bool), (14, 0, (.int .i64))]⟩ [(2, ⟨[0], [(4, 0, .bool)]⟩)]), (467, .join [(0, ⟨[0, 3, 12, 13, 14], [(4, 0, .bool)]⟩)])]
noncomputable def e_spec_l3Target : Ent := mkE tysC 90 [e_spec_l1Labels] h_spec_l3Target Tryz.f90 [(.vw, .str)] true .bool
theorem ok_spec_l3Target : e_spec_l3Target.Ok Tryz.prog := mkE_ok envC (ok_cons ok_spec_l1Labels ok_nil) Tryz.func90 (by decide +kernel) (by kernel_rfl)
def h_spec_l2Bytes : List (Nat × Hint) := [(122, .loop ⟨[3, 13, 14], [(5, 0, .str), (15, 0, (.int .i64))]⟩ [(2, ⟨[], [(5, 0, .str)]⟩)])]
noncomputable def e_spec_l2Bytes : Ent := mkE tysC 91 [e_spec_l1Labels] h_spec_l2Bytes Tryz.f91 [(.vw, .str)] true .str
theorem ok_spec_l2Bytes : e_spec_l2Bytes.Ok Tryz.prog := mkE_ok envC (ok_cons ok_spec_l1Labels ok_nil) Tryz.func91 (by decide +kernel) (by kernel_rfl)
def h_spec_l3Bytes : List (Nat × Hint) := [(221170, .loop ⟨[1], [(13, 0, (.int .i64))]⟩ [(1, ⟨[], [(4, 0, .str), (5, 0, .bool)]⟩), (5, ⟨[1], []⟩)]), (3538724, .join [(0, ⟨[1, 13], [(104, 0, .bool)]⟩)]), (27642, .join [(0, ⟨[12], [(76, 0, .bool)]⟩)]), (107, .join [(0, ⟨[1, 14], [(39, 0, .bool)]⟩)]), (3418, .loop ⟨[7, 19, 20], [(6, 0, .str), (21, 0, (.int .i64))]⟩ [(1, ⟨[4, 5], []⟩), (3, ⟨[7], [(6, 0, .str)]⟩)])]
noncomputable def e_spec_l3Bytes : Ent := mkE tysC 47 [e_spec_l1Split, e_spec_l1Int, e_spec_l1In, e_spec_l3Number, e_spec_l3Target, e_spec_l2Bytes] h_spec_l3Bytes Tryz.f47 [(.vw, (.int .i64)), (.vw, .str)] false (.pair .str (.pair .bool .unit))
theorem ok_spec_l3Bytes : e_spec_l3Bytes.Ok Tryz.prog := mkE_ok envC (ok_cons ok_spec_l1Split (ok_cons ok_spec_l1Int (ok_cons ok_spec_l1In (ok_cons ok_spec_l3Number (ok_cons ok_spec_l3Target (ok_cons ok_spec_l2Bytes ok_nil)))))) Tryz.func47 (by decide +kernel) (by kernel_rfl)
def h_spec_GoodPolicy : List (Nat × Hint) := [(7, .join [(0, ⟨[], [(2, 0, .bool)]⟩)]), (26, .loop ⟨[1, 8, 9], [(10, 0, (.int .i64))]⟩ [(1, ⟨[2], []⟩), (2, ⟨[1], []⟩)]), (3379, .join [(0, ⟨[1, 8, 9, 10], [(39, 0, .bool)]⟩)])]
noncomputable def e_spec_GoodPolicy : Ent := mkE tysC 17 [e_spec_l3Bytes, e_spec_GoodName, e_spec_l1In] h_spec_GoodPolicy Tryz.f17 [(.vw, (.pair .str (.pair (.lst false (.pair .str (.pair .str (.pair (.int .i64) (.pair (.int .i64) .unit))))) .unit)))] true .bool
theorem ok_spec_GoodPolicy : e_spec_GoodPolicy.Ok Tryz.prog := mkE_ok envC (ok_cons ok_spec_l3Bytes (ok_cons ok_spec_GoodName (ok_cons ok_spec_l1In ok_nil))) Tryz.func17 (by decide +kernel) (by kernel_rfl)
def h_spec_l1Has : List (Nat × Hint) := [(26, .loop ⟨[1, 7, 8], [(9, 0, (.int .i64))]⟩ [(1, ⟨[], [(4, 0, .bool)]⟩), (2, ⟨[], []⟩)])]
noncomputable def e_spec_l1Has : Ent := mkE tysC 97 [] h_spec_l1Has Tryz.f97 [(.vw, (.lst false (.int .i64))), (.vw, (.int .i64))] true .bool
theorem ok_spec_l1Has : e_spec_l1Has.Ok Tryz.prog := mkE_ok envC ok_nil Tryz.func97 (by decide +kernel) (by kernel_rfl)
def h_spec_l14Groups : List (Nat × Hint) := [(58, .loop ⟨[1], [(3, 0, (.lst true (.int .i64))), (4, 0, (.int .i64))]⟩ [(2, ⟨[], [(3, 0, (.lst true (.int .i64)))]⟩)]), (3730, .loop ⟨[1, 4, 12, 13], [(3, 0, (.lst true (.int .i64))), (14, 0, (.int .i64))]⟩ [(4, ⟨[1, 4], [(3, 0, (.lst true (.int .i64)))]⟩)]), (29843, .join [(0, ⟨[1, 4, 12, 13, 14], [(3, 0, (.lst true (.int .i64)))]⟩)]), (238745, .join [(0, ⟨[1, 3, 4, 12, 13, 14], [(27, 0, .bool)]⟩)]), (0, .frz [2])]
noncomputable def e_spec_l14Groups : Ent := mkE tysC 53 [e_spec_l1Has] h_spec_l14Groups Tryz.f53 [(.vw, (.pair .str (.pair (.lst false (.pair .str (.pair .str (.pair (.int .i64) (.pair (.int .i64) .unit))))) .unit)))] true (.lst true (.int .i64))
theorem ok_spec_l14Groups : e_spec_l14Groups.Ok Tryz.prog := mkE_ok envC (ok_cons ok_spec_l1Has ok_nil) Tryz.func53 (by decide +kernel) (by kernel_rfl)
def h_spec_IsUp : List (Nat × Hint) := [(58, .loop ⟨[1, 12, 13], [(14, 0, (.int .i64))]⟩ [(1, ⟨[], [(4, 0, .bool), (5, 0, .bool)]⟩), (2, ⟨[], []⟩)])]
noncomputable def e_spec_IsUp : Ent := mkE tysC 98 [e_spec_GoodHealth] h_spec_IsUp Tryz.f98 [(.vw, (.pair (.int .i64) (.pair (.int .i64) (.pair (.lst false (.pair .str (.pair .bool (.pair (.int .i64) .unit)))) .unit)))), (.vw, .str)] false (.pair .bool (.pair .bool .unit))
theorem ok_spec_IsUp : e_spec_IsUp.Ok Tryz.prog := mkE_ok envC (ok_cons ok_spec_GoodHealth ok_nil) Tryz.func98 (by decide +kernel) (by kernel_rfl)
def h_spec_l14Well : List (Nat × Hint) := [(7, .join [(0, ⟨[], [(4, 0, .bool)]⟩)])]
noncomputable def e_spec_l14Well : Ent := mkE tysC 60 [e_spec_IsUp] h_spec_l14Well Tryz.f60 [(.vw, (.pair (.int .i64) (.pair (.int .i64) (.pair (.lst false (.pair .str (.pair .bool (.pair (.int .i64) .unit)))) .unit)))), (.vw, .str)] true .bool
theorem ok_spec_l14Well : e_spec_l14Well.Ok Tryz.prog := mkE_ok envC (ok_cons ok_spec_IsUp ok_nil) Tryz.func60 (by decide +kernel) (by kernel_rfl)
def h_spec_l14Group : List (Nat × Hint) := [(26, .loop ⟨[2, 3, 10, 11], [(12, 0, (.int .i64))]⟩ [(1, ⟨[], [(4, 0, (.int .i64))]⟩), (2, ⟨[2], []⟩)]), (6758, .loop ⟨[2, 3, 6, 10, 11, 12, 17, 18], [(19, 0, (.int .i64))]⟩ [(1, ⟨[], [(4, 0, (.int .i64))]⟩), (4, ⟨[2, 3, 10, 11, 12], []⟩)]), (432537, .join [(0, ⟨[2, 3, 6, 10, 11, 12, 17, 18, 19], [(32, 0, .bool)]⟩)])]
noncomputable def e_spec_l14Group : Ent := mkE tysC 41 [e_spec_l14Groups, e_spec_l14Well] h_spec_l14Group Tryz.f41 [(.vw, (.pair .str (.pair (.lst false (.pair .str (.pair .str (.pair (.int .i64) (.pair (.int .i64) .unit))))) .unit))), (.vw, (.pair (.int .i64) (.pair (.int .i64) (.pair (.lst false (.pair .str (.pair .bool (.pair (.int .i64) .unit)))) .unit))))] true (.int .i64)
theorem ok_spec_l14Group : e_spec_l14Group.Ok Tryz.prog := mkE_ok envC (ok_cons ok_spec_l14Groups (ok_cons ok_spec_l14Well ok_nil)) Tryz.func41 (by decide +kernel) (by kernel_rfl)
def h_spec_l14Candidates : List (Nat × Hint) := [(250, .loop ⟨[3, 5, 14, 15], [(6, 0, (.lst true (.int .i64))), (7, 0, (.lst true (.int .i64))), (16, 0, (.int .i64))]⟩ [(2, ⟨[], [(6, 0, (.lst true (.int .i64))), (7, 0, (.lst true (.int .i64)))]⟩)]), (2003, .join [(0, ⟨[3, 5, 14, 15, 16], [(6, 0, (.lst true (.int .i64))), (7, 0, (.lst true (.int .i64)))]⟩)]), (0, .frz [4])]
noncomputable def e_spec_l14Candidates : Ent := mkE tysC 29 [e_spec_l14Group, e_spec_l14Well] h_spec_l14Candidates Tryz.f29 [(.vw, (.pair .str (.pair (.lst false (.pair .str (.pair .str (.pair (.int .i64) (.pair (.int .i64) .unit))))) .unit))), (.vw, (.pair (.int .i64) (.pair (.int .i64) (.pair (.lst false (.pair .str (.pair .bool (.pair (.int .i64) .unit)))) .unit))))] true (.lst true (.int .i64))
theorem ok_spec_l14Candidates : e_spec_l14Candidates.Ok Tryz.prog := mkE_ok envC (ok_cons ok_spec_l14Group (ok_cons ok_spec_l14Well ok_nil)) Tryz.func29 (by decide +kernel) (by kernel_rfl)
def h_spec_l12Total : List (Nat × Hint) := [(58, .loop ⟨[6, 7], [(3, 0, (.int .i64)), (8, 0, (.int .i64))]⟩ [(2, ⟨[], [(3, 0, (.int .i64))]⟩)])]
noncomputable def e_spec_l12Total : Ent := mkE tysC 30 [] h_spec_l12Total Tryz.f30 [(.vw, (.lst false (.int .i64)))] true (.int .i64)
theorem ok_spec_l12Total : e_spec_l12Total.Ok Tryz.prog := mkE_ok envC ok_nil Tryz.func30 (by decide +kernel) (by kernel_rfl)
def h_spec_SharesOf : List (Nat × Hint) := [(122, .loop ⟨[2, 24, 25], [(7, 0, (.lst true (.int .i64))), (26, 0, (.int .i64))]⟩ [(2, ⟨[], [(7, 0, (.lst true (.int .i64)))]⟩)]), (6, .join [(0, ⟨[2, 3], [(17, 0, .bool)]⟩)]), (0, .frz [4])]
noncomputable def e_spec_SharesOf : Ent := mkE tysC 7 [e_spec_GoodPolicy, e_spec_GoodHealth, e_spec_l14Candidates, e_spec_l12Total] h_spec_SharesOf Tryz.f7 [(.vw, (.pair .str (.pair (.lst false (.pair .str (.pair .str (.pair (.int .i64) (.pair (.int .i64) .unit))))) .unit))), (.vw, (.pair (.int .i64) (.pair (.int .i64) (.pair (.lst false (.pair .str (.pair .bool (.pair (.int .i64) .unit)))) .unit))))] false (.pair (.lst true (.int .i64)) (.pair (.int .i64) (.pair .bool .unit)))
theorem ok_spec_SharesOf : e_spec_SharesOf.Ok Tryz.prog := mkE_ok envC (ok_cons ok_spec_GoodPolicy (ok_cons ok_spec_GoodHealth (ok_cons ok_spec_l14Candidates (ok_cons ok_spec_l12Total ok_nil)))) Tryz.func7 (by decide +kernel) (by kernel_rfl)
def h_impl_CandidatesOf : List (Nat × Hint) := [(6, .join [(0, ⟨[2, 3], [(13, 0, .bool)]⟩)])]
noncomputable def e_impl_CandidatesOf : Ent := mkE tysC 8 [e_impl_GoodPolicy, e_impl_GoodHealth, e_impl_candidatesOf] h_impl_CandidatesOf Tryz.f8 [(.vw, (.pair .str (.pair (.lst false (.pair .str (.pair .str (.pair (.int .i64) (.pair (.int .i64) .unit))))) .unit))), (.vw, (.pair (.int .i64) (.pair (.int .i64) (.pair (.lst false (.pair .str (.pair .bool (.pair (.int .i64) .unit)))) .unit))))] false (.pair (.lst true (.int .i64)) (.pair .bool .unit))
theorem ok_impl_CandidatesOf : e_impl_CandidatesOf.Ok Tryz.prog := mkE_ok envC (ok_cons ok_impl_GoodPolicy (ok_cons ok_impl_GoodHealth (ok_cons ok_impl_candidatesOf ok_nil))) Tryz.func8 (by decide +kernel) (by kernel_rfl)
def h_laws_sameInts : List (Nat × Hint) := [(58, .loop ⟨[0, 1, 12], [(13, 0, (.int .i64))]⟩ [(1, ⟨[4], []⟩), (2, ⟨[], []⟩)])]
noncomputable def e_laws_sameInts : Ent := mkE tysC 9 [] h_laws_sameInts Tryz.f9 [(.vw, (.lst false (.int .i64))), (.vw, (.lst false (.int .i64)))] true .bool
theorem ok_laws_sameInts : e_laws_sameInts.Ok Tryz.prog := mkE_ok envC ok_nil Tryz.func9 (by decide +kernel) (by kernel_rfl)
def h_impl_isCounter : List (Nat × Hint) := []
noncomputable def e_impl_isCounter : Ent := mkE tysC 31 [e_impl_within] h_impl_isCounter Tryz.f31 [(.vw, (.int .i64))] true .bool
theorem ok_impl_isCounter : e_impl_isCounter.Ok Tryz.prog := mkE_ok envC (ok_cons ok_impl_within ok_nil) Tryz.func31 (by decide +kernel) (by kernel_rfl)
def h_impl_aliasOf_1 : List (Nat × Hint) := []
noncomputable def e_impl_aliasOf_1 : Ent := mkE tysC 62 [] h_impl_aliasOf_1 Tryz.f62 [(.vw, (.int .i64)), (.vw, (.ptr (.int .i64)))] true .bool
theorem ok_impl_aliasOf_1 : e_impl_aliasOf_1.Ok Tryz.prog := mkE_ok envC ok_nil Tryz.func62 (by decide +kernel) (by kernel_rfl)
def h_slices_IndexFunc_int_int__impl_aliasOf_1 : List (Nat × Hint) := [(26, .loop ⟨[0, 1, 7], [(8, 0, (.int .i64))]⟩ [(1, ⟨[], [(4, 0, (.int .i64))]⟩), (2, ⟨[], []⟩)])]
noncomputable def e_slices_IndexFunc_int_int__impl_aliasOf_1 : Ent := mkE tysC 61 [e_impl_aliasOf_1] h_slices_IndexFunc_int_int__impl_aliasOf_1 Tryz.f61 [(.vw, (.lst false (.int .i64))), (.vw, (.fn 62 (.pair (.ptr (.int .i64)) .unit)))] true (.int .i64)
theorem ok_slices_IndexFunc_int_int__impl_aliasOf_1 : e_slices_IndexFunc_int_int__impl_aliasOf_1.Ok Tryz.prog := mkE_ok envC (ok_cons ok_impl_aliasOf_1 ok_nil) Tryz.func61 (by decide +kernel) (by kernel_rfl)
def h_impl_aliasOf : List (Nat × Hint) := [(254, .loop ⟨[3], [(4, 0, (.lst true (.int .i64))), (5, 0, (.lst true (.pair (.int .i64) (.pair (.int .i64) .unit)))), (8, 0, (.lst true .bool))]⟩ [(1, ⟨[], [(2, 0, (.lst true (.pair (.int .i64) (.pair (.int .i64) .unit))))]⟩)]), (16266, .loop ⟨[3, 4, 5, 8, 9, 41, 42], [(43, 0, (.int .i64))]⟩ [(6, ⟨[3, 4, 5, 8], [(9, 0, (.int .i64))]⟩)]), (1041049, .join [(0, ⟨[3, 4, 5, 8, 9, 10, 41, 42, 43], [(57, 0, .bool)]⟩)]), (250, .loop ⟨[0, 3, 17, 18], [(4, 0, (.lst true (.int .i64))), (5, 0, (.lst true (.pair (.int .i64) (.pair (.int .i64) .unit)))), (19, 0, (.int .i64))]⟩ [(2, ⟨[0, 3], [(4, 0, (.lst true (.int .i64))), (5, 0, (.lst true (.pair (.int .i64) (.pair (.int .i64) .unit))))]⟩)])]
noncomputable def e_impl_aliasOf : Ent := mkE tysC 33 [e_impl_totalOf, e_slices_IndexFunc_int_int__impl_aliasOf_1] h_impl_aliasOf Tryz.f33 [(.vw, (.lst false (.int .i64)))] true (.lst true (.pair (.int .i64) (.pair (.int .i64) .unit)))
theorem ok_impl_aliasOf : e_impl_aliasOf.Ok Tryz.prog := mkE_ok envC (ok_cons ok_impl_totalOf (ok_cons ok_slices_IndexFunc_int_int__impl_aliasOf_1 ok_nil)) Tryz.func33 (by decide +kernel) (by kernel_rfl)
def h_impl_pickBy : List (Nat × Hint) := []
noncomputable def e_impl_pickBy : Ent := mkE tysC 32 [] h_impl_pickBy Tryz.f32 [(.vw, (.lst false (.pair (.int .i64) (.pair (.int .i64) .unit)))), (.vw, (.int .i64)), (.vw, (.int .i64))] true (.int .i64)
theorem ok_impl_pickBy : e_impl_pickBy.Ok Tryz.prog := mkE_ok envC ok_nil Tryz.func32 (by decide +kernel) (by kernel_rfl)
def h_impl_ChooseTarget : List (Nat × Hint) := [(250, .loop ⟨[2, 3, 8, 30, 31], [(9, 0, (.lst true (.int .i64))), (32, 0, (.int .i64))]⟩ [(2, ⟨[2, 8], [(9, 0, (.lst true (.int .i64)))]⟩)]), (6, .join [(0, ⟨[2, 3, 4], [(25, 0, .bool)]⟩)])]
noncomputable def e_impl_ChooseTarget : Ent := mkE tysC 10 [e_impl_GoodPolicy, e_impl_GoodHealth, e_impl_isCounter, e_impl_candidatesOf, e_impl_totalOf, e_impl_aliasOf, e_impl_pickBy] h_impl_ChooseTarget Tryz.f10 [(.vw, (.pair .str (.pair (.lst false (.pair .str (.pair .str (.pair (.int .i64) (.pair (.int .i64) .unit))))) .unit))), (.vw, (.pair (.int .i64) (.pair (.int .i64) (.pair (.lst false (.pair .str (.pair .bool (.pair (.int .i64) .unit)))) .unit)))), (.vw, (.int .i64))] false (.pair (.int .i64) (.pair .bool .unit))
theorem ok_impl_ChooseTarget : e_impl_ChooseTarget.Ok Tryz.prog := mkE_ok envC (ok_cons ok_impl_GoodPolicy (ok_cons ok_impl_GoodHealth (ok_cons ok_impl_isCounter (ok_cons ok_impl_candidatesOf (ok_cons ok_impl_totalOf (ok_cons ok_impl_aliasOf (ok_cons ok_impl_pickBy ok_nil))))))) Tryz.func10 (by decide +kernel) (by kernel_rfl)
def h_laws_FnShares : List (Nat × Hint) := [(32762, .loop ⟨[5, 11, 13, 99], [(100, 0, (.int .i64))]⟩ [(1, ⟨[], [(2, 0, .bool)]⟩), (4, ⟨[], []⟩)]), (16378, .loop ⟨[3, 4, 5, 6, 11], [(13, 0, (.lst true (.int .i64))), (14, 0, (.int .i64))]⟩ [(1, ⟨[], [(2, 0, .bool)]⟩), (2, ⟨[5, 11], [(13, 0, (.lst true (.int .i64)))]⟩)]), (254, .join [(0, ⟨[3, 4, 5, 6, 7, 11], [(64, 0, .bool)]⟩)])]
noncomputable def e_laws_FnShares : Ent := mkE tysC 3 [e_spec_DrawSharesOf, e_impl_SharesOf, e_spec_SharesOf, e_impl_CandidatesOf, e_laws_sameInts, e_impl_ChooseTarget] h_laws_FnShares Tryz.f3 [(.vw, (.lst false (.int .u8)))] true .bool
theorem ok_laws_FnShares : e_laws_FnShares.Ok Tryz.prog := mkE_ok envC (ok_cons ok_spec_DrawSharesOf (ok_cons ok_impl_SharesOf (ok_cons ok_spec_SharesOf (ok_cons ok_impl_CandidatesOf (ok_cons ok_laws_sameInts (ok_cons ok_impl_ChooseTarget ok_nil)))))) Tryz.func3 (by decide +kernel) (by kernel_rfl)
def h_spec_DrawChooseTarget : List (Nat × Hint) := []
noncomputable def e_spec_DrawChooseTarget : Ent := mkE tysC 11 [e_spec_l1Cur_policy, e_spec_l1Cur_health, e_spec_l1Cur_pick] h_spec_DrawChooseTarget Tryz.f11 [(.vw, (.lst false (.int .u8)))] false (.pair (.pair .str (.pair (.lst true (.pair .str (.pair .str (.pair (.int .i64) (.pair (.int .i64) .unit))))) .unit)) (.pair (.pair (.int .i64) (.pair (.int .i64) (.pair (.lst true (.pair .str (.pair .bool (.pair (.int .i64) .unit)))) .unit))) (.pair (.int .i64) .unit)))
theorem ok_spec_DrawChooseTarget : e_spec_DrawChooseTarget.Ok Tryz.prog := mkE_ok envC (ok_cons ok_spec_l1Cur_policy (ok_cons ok_spec_l1Cur_health (ok_cons ok_spec_l1Cur_pick ok_nil))) Tryz.func11 (by decide +kernel) (by kernel_rfl)
def h_spec_l9Counter : List (Nat × Hint) := []
noncomputable def e_spec_l9Counter : Ent := mkE tysC 37 [e_spec_l1In] h_spec_l9Counter Tryz.f37 [(.vw, (.int .i64))] true .bool
theorem ok_spec_l9Counter : e_spec_l9Counter.Ok Tryz.prog := mkE_ok envC (ok_cons ok_spec_l1In ok_nil) Tryz.func37 (by decide +kernel) (by kernel_rfl)
def h_spec_GoodWeights : List (Nat × Hint) := [(15, .join [(0, ⟨[], [(2, 0, .bool)]⟩)]), (58, .loop ⟨[0, 6, 7], [(3, 0, (.int .i64)), (8, 0, (.int .i64))]⟩ [(1, ⟨[2], []⟩), (2, ⟨[0], [(3, 0, (.int .i64))]⟩)])]
noncomputable def e_spec_GoodWeights : Ent := mkE tysC 71 [e_spec_l1In] h_spec_GoodWeights Tryz.f71 [(.vw, (.lst false (.int .i64)))] true .bool
theorem ok_spec_GoodWeights : e_spec_GoodWeights.Ok Tryz.prog := mkE_ok envC (ok_cons ok_spec_l1In ok_nil) Tryz.func71 (by decide +kernel) (by kernel_rfl)
def h_spec_AliasOf : List (Nat × Hint) := [(1022, .loop ⟨[5], [(6, 0, (.lst true (.int .i64))), (7, 0, (.lst true .bool)), (8, 0, (.lst true (.pair (.int .i64) (.pair (.int .i64) .unit))))]⟩ [(1, ⟨[], [(2, 0, (.lst true (.pair (.int .i64) (.pair (.int .i64) .unit)))), (3, 0, .bool)]⟩)]), (65422, .join [(0, ⟨[5, 6, 7, 8, 11, 12], [(84, 0, .bool)]⟩)]), (130842, .loop ⟨[5, 6, 7, 8, 48], [(11, 0, (.int .i64)), (12, 0, (.int .i64)), (49, 0, (.int .i64))]⟩ [(6, ⟨[5, 6, 7, 8], [(11, 0, (.int .i64)), (12, 0, (.int .i64))]⟩)]), (1046739, .join [(0, ⟨[5, 6, 7, 8, 48, 49], [(11, 0, (.int .i64)), (12, 0, (.int .i64))]⟩)]), (33495655, .join [(0, ⟨[5, 6, 7, 8, 11, 12, 13, 48, 49], [(76, 0, .bool)]⟩)]), (16747827, .join [(0, ⟨[5, 6, 7, 8, 12, 13, 48, 49], [(11, 0, (.int .i64))]⟩)]), (33495654, .join [(0, ⟨[5, 6, 7, 8, 11, 12, 13, 48, 49], [(65, 0, .bool)]⟩)]), (2042, .loop ⟨[4, 5, 7, 27, 28], [(6, 0, (.lst true (.int .i64))), (8, 0, (.lst true (.pair (.int .i64) (.pair (.int .i64) .unit)))), (29, 0, (.int .i64))]⟩ [(2, ⟨[5, 7], [(6, 0, (.lst true (.int .i64))), (8, 0, (.lst true (.pair (.int .i64) (.pair (.int .i64) .unit))))]⟩)])]
noncomputable def e_spec_AliasOf : Ent := mkE tysC 38 [e_spec_GoodWeights, e_spec_l12Total] h_spec_AliasOf Tryz.f38 [(.vw, (.lst false (.int .i64)))] false (.pair (.lst true (.pair (.int .i64) (.pair (.int .i64) .unit))) (.pair .bool .unit))
theorem ok_spec_AliasOf : e_spec_AliasOf.Ok Tryz.prog := mkE_ok envC (ok_cons ok_spec_GoodWeights (ok_cons ok_spec_l12Total ok_nil)) Tryz.func38 (by decide +kernel) (by kernel_rfl)
def h_spec_GoodAlias : List (Nat × Hint) := [(26, .loop ⟨[0, 5, 6], [(7, 0, (.int .i64))]⟩ [(1, ⟨[2], []⟩), (2, ⟨[0], []⟩)]), (1689, .join [(0, ⟨[0, 5, 6, 7], [(22, 0, .bool)]⟩)])]
noncomputable def e_spec_GoodAlias : Ent := mkE tysC 100 [e_spec_l1In] h_spec_GoodAlias Tryz.f100 [(.vw, (.lst false (.pair (.int .i64) (.pair (.int .i64) .unit))))] true .bool
theorem ok_spec_GoodAlias : e_spec_GoodAlias.Ok Tryz.prog := mkE_ok envC (ok_cons ok_spec_l1In ok_nil) Tryz.func100 (by decide +kernel) (by kernel_rfl)
def h_spec_l12Fits : List (Nat × Hint) := [(7, .join [(0, ⟨[], [(4, 0, .bool)]⟩)]), (26, .loop ⟨[0, 1, 7, 8], [(9, 0, (.int .i64))]⟩ [(1, ⟨[4], []⟩), (2, ⟨[0, 1], []⟩)])]
noncomputable def e_spec_l12Fits : Ent := mkE tysC 72 [e_spec_GoodAlias, e_spec_l1In] h_spec_l12Fits Tryz.f72 [(.vw, (.lst false (.pair (.int .i64) (.pair (.int .i64) .unit)))), (.vw, (.int .i64))] true .bool
theorem ok_spec_l12Fits : e_spec_l12Fits.Ok Tryz.prog := mkE_ok envC (ok_cons ok_spec_GoodAlias (ok_cons ok_spec_l1In ok_nil)) Tryz.func72 (by decide +kernel) (by kernel_rfl)
def h_spec_PickBy : List (Nat × Hint) := [(6, .join [(0, ⟨[0, 1, 2], [(22, 0, .bool)]⟩)])]
noncomputable def e_spec_PickBy : Ent := mkE tysC 39 [e_spec_l12Fits, e_spec_l1In] h_spec_PickBy Tryz.f39 [(.vw, (.lst false (.pair (.int .i64) (.pair (.int .i64) .unit)))), (.vw, (.int .i64)), (.vw, (.int .i64))] false (.pair (.int .i64) (.pair .bool .unit))
theorem ok_spec_PickBy : e_spec_PickBy.Ok Tryz.prog := mkE_ok envC (ok_cons ok_spec_l12Fits (ok_cons ok_spec_l1In ok_nil)) Tryz.func39 (by decide +kernel) (by kernel_rfl)
def h_spec_ChooseTarget : List (Nat × Hint) := [(250, .loop ⟨[2, 3, 8, 33, 34], [(9, 0, (.lst true (.int .i64))), (35, 0, (.int .i64))]⟩ [(2, ⟨[2, 8], [(9, 0, (.lst true (.int .i64)))]⟩)]), (6, .join [(0, ⟨[2, 3, 4], [(29, 0, .bool)]⟩)])]
noncomputable def e_spec_ChooseTarget : Ent := mkE tysC 12 [e_spec_GoodPolicy, e_spec_GoodHealth, e_spec_l9Counter, e_spec_l14Candidates, e_spec_AliasOf, e_spec_l12Total, e_spec_PickBy] h_spec_ChooseTarget Tryz.f12 [(.vw, (.pair .str (.pair (.lst false (.pair .str (.pair .str (.pair (.int .i64) (.pair (.int .i64) .unit))))) .unit))), (.vw, (.pair (.int .i64) (.pair (.int .i64) (.pair (.lst false (.pair .str (.pair .bool (.pair (.int .i64) .unit)))) .unit)))), (.vw, (.int .i64))] false (.pair (.int .i64) (.pair .bool .unit))
theorem ok_spec_ChooseTarget : e_spec_ChooseTarget.Ok Tryz.prog := mkE_ok envC (ok_cons ok_spec_GoodPolicy (ok_cons ok_spec_GoodHealth (ok_cons ok_spec_l9Counter (ok_cons ok_spec_l14Candidates (ok_cons ok_spec_AliasOf (ok_cons ok_spec_l12Total (ok_cons ok_spec_PickBy ok_nil))))))) Tryz.func12 (by decide +kernel) (by kernel_rfl)
def h_impl_GroupOf : List (Nat × Hint) := [(6, .join [(0, ⟨[2, 3], [(13, 0, .bool)]⟩)])]
noncomputable def e_impl_GroupOf : Ent := mkE tysC 13 [e_impl_GoodPolicy, e_impl_GoodHealth, e_impl_groupOf] h_impl_GroupOf Tryz.f13 [(.vw, (.pair .str (.pair (.lst false (.pair .str (.pair .str (.pair (.int .i64) (.pair (.int .i64) .unit))))) .unit))), (.vw, (.pair (.int .i64) (.pair (.int .i64) (.pair (.lst false (.pair .str (.pair .bool (.pair (.int .i64) .unit)))) .unit))))] false (.pair (.int .i64) (.pair .bool .unit))
theorem ok_impl_GroupOf : e_impl_GroupOf.Ok Tryz.prog := mkE_ok envC (ok_cons ok_impl_GoodPolicy (ok_cons ok_impl_GoodHealth (ok_cons ok_impl_groupOf ok_nil))) Tryz.func13 (by decide +kernel) (by kernel_rfl)
def h_spec_GroupOf : List (Nat × Hint) := [(6, .join [(0, ⟨[2, 3], [(13, 0, .bool)]⟩)])]
noncomputable def e_spec_GroupOf : Ent := mkE tysC 14 [e_spec_GoodPolicy, e_spec_GoodHealth, e_spec_l14Group] h_spec_GroupOf Tryz.f14 [(.vw, (.pair .str (.pair (.lst false (.pair .str (.pair .str (.pair (.int .i64) (.pair (.int .i64) .unit))))) .unit))), (.vw, (.pair (.int .i64) (.pair (.int .i64) (.pair (.lst false (.pair .str (.pair .bool (.pair (.int .i64) .unit)))) .unit))))] false (.pair (.int .i64) (.pair .bool .unit))
theorem ok_spec_GroupOf : e_spec_GroupOf.Ok Tryz.prog := mkE_ok envC (ok_cons ok_spec_GoodPolicy (ok_cons ok_spec_GoodHealth (ok_cons ok_spec_l14Group ok_nil))) Tryz.func14 (by decide +kernel) (by kernel_rfl)
def h_spec_CandidatesOf : List (Nat × Hint) := [(6, .join [(0, ⟨[2, 3], [(13, 0, .bool)]⟩)])]
noncomputable def e_spec_CandidatesOf : Ent := mkE tysC 15 [e_spec_GoodPolicy, e_spec_GoodHealth, e_spec_l14Candidates] h_spec_CandidatesOf Tryz.f15 [(.vw, (.pair .str (.pair (.lst false (.pair .str (.pair .str (.pair (.int .i64) (.pair (.int .i64) .unit))))) .unit))), (.vw, (.pair (.int .i64) (.pair (.int .i64) (.pair (.lst false (.pair .str (.pair .bool (.pair (.int .i64) .unit)))) .unit))))] false (.pair (.lst true (.int .i64)) (.pair .bool .unit))
theorem ok_spec_CandidatesOf : e_spec_CandidatesOf.Ok Tryz.prog := mkE_ok envC (ok_cons ok_spec_GoodPolicy (ok_cons ok_spec_GoodHealth (ok_cons ok_spec_l14Candidates ok_nil))) Tryz.func15 (by decide +kernel) (by kernel_rfl)
def h_impl_AnswerOf : List (Nat × Hint) := []
noncomputable def e_impl_AnswerOf : Ent := mkE tysC 18 [e_impl_ChooseTarget] h_impl_AnswerOf Tryz.f18 [(.vw, (.pair .str (.pair (.lst false (.pair .str (.pair .str (.pair (.int .i64) (.pair (.int .i64) .unit))))) .unit))), (.vw, (.pair (.int .i64) (.pair (.int .i64) (.pair (.lst false (.pair .str (.pair .bool (.pair (.int .i64) .unit)))) .unit)))), (.vw, (.int .i64))] false (.pair tyR (.pair .bool .unit))
theorem ok_impl_AnswerOf : e_impl_AnswerOf.Ok Tryz.prog := mkE_ok envC (ok_cons ok_impl_ChooseTarget ok_nil) Tryz.func18 (by decide +kernel) (by kernel_rfl)
def h_impl_GoodRecord : List (Nat × Hint) := [(6, .join [(0, ⟨[1], [(20, 0, .bool)]⟩)])]
noncomputable def e_impl_GoodRecord : Ent := mkE tysC 19 [e_impl_GoodName, e_impl_within, e_impl_DataBytes] h_impl_GoodRecord Tryz.f19 [(.vw, tyR)] true .bool
theorem ok_impl_GoodRecord : e_impl_GoodRecord.Ok Tryz.prog := mkE_ok envC (ok_cons ok_impl_GoodName (ok_cons ok_impl_within (ok_cons ok_impl_DataBytes ok_nil))) Tryz.func19 (by decide +kernel) (by kernel_rfl)
def h_impl_IsUp : List (Nat × Hint) := []
noncomputable def e_impl_IsUp : Ent := mkE tysC 20 [e_impl_GoodHealth, e_impl_Health_findHost] h_impl_IsUp Tryz.f20 [(.vw, (.pair (.int .i64) (.pair (.int .i64) (.pair (.lst false (.pair .str (.pair .bool (.pair (.int .i64) .unit)))) .unit)))), (.vw, .str)] false (.pair .bool (.pair .bool .unit))
theorem ok_impl_IsUp : e_impl_IsUp.Ok Tryz.prog := mkE_ok envC (ok_cons ok_impl_GoodHealth (ok_cons ok_impl_Health_findHost ok_nil)) Tryz.func20 (by decide +kernel) (by kernel_rfl)
def h_spec_DrawGoodPolicy : List (Nat × Hint) := []
noncomputable def e_spec_DrawGoodPolicy : Ent := mkE tysC 51 [e_spec_l1Cur_policy] h_spec_DrawGoodPolicy Tryz.f51 [(.vw, (.lst false (.int .u8)))] true (.pair .str (.pair (.lst true (.pair .str (.pair .str (.pair (.int .i64) (.pair (.int .i64) .unit))))) .unit))
theorem ok_spec_DrawGoodPolicy : e_spec_DrawGoodPolicy.Ok Tryz.prog := mkE_ok envC (ok_cons ok_spec_l1Cur_policy ok_nil) Tryz.func51 (by decide +kernel) (by kernel_rfl)
def h_spec_DrawGroupsIn : List (Nat × Hint) := []
noncomputable def e_spec_DrawGroupsIn : Ent := mkE tysC 21 [e_spec_DrawGoodPolicy] h_spec_DrawGroupsIn Tryz.f21 [(.vw, (.lst false (.int .u8)))] true (.pair .str (.pair (.lst true (.pair .str (.pair .str (.pair (.int .i64) (.pair (.int .i64) .unit))))) .unit))
theorem ok_spec_DrawGroupsIn : e_spec_DrawGroupsIn.Ok Tryz.prog := mkE_ok envC (ok_cons ok_spec_DrawGoodPolicy ok_nil) Tryz.func21 (by decide +kernel) (by kernel_rfl)
def h_impl_GroupsIn : List (Nat × Hint) := []
noncomputable def e_impl_GroupsIn : Ent := mkE tysC 22 [e_impl_GoodPolicy, e_impl_groupsIn] h_impl_GroupsIn Tryz.f22 [(.vw, (.pair .str (.pair (.lst false (.pair .str (.pair .str (.pair (.int .i64) (.pair (.int .i64) .unit))))) .unit)))] false (.pair (.lst true (.int .i64)) (.pair .bool .unit))
theorem ok_impl_GroupsIn : e_impl_GroupsIn.Ok Tryz.prog := mkE_ok envC (ok_cons ok_impl_GoodPolicy (ok_cons ok_impl_groupsIn ok_nil)) Tryz.func22 (by decide +kernel) (by kernel_rfl)
def h_spec_GroupsIn : List (Nat × Hint) := []
noncomputable def e_spec_GroupsIn : Ent := mkE tysC 23 [e_spec_GoodPolicy, e_spec_l14Groups] h_spec_GroupsIn Tryz.f23 [(.vw, (.pair .str (.pair (.lst false (.pair .str (.pair .str (.pair (.int .i64) (.pair (.int .i64) .unit))))) .unit)))] false (.pair (.lst true (.int .i64)) (.pair .bool .unit))
theorem ok_spec_GroupsIn : e_spec_GroupsIn.Ok Tryz.prog := mkE_ok envC (ok_cons ok_spec_GoodPolicy (ok_cons ok_spec_l14Groups ok_nil)) Tryz.func23 (by decide +kernel) (by kernel_rfl)
def h_laws_FnChosen : List (Nat × Hint) := [(32767, .join [(0, ⟨[], [(4, 0, .bool)]⟩)]), (2047, .join [(0, ⟨[1], []⟩), (1, ⟨[], [(4, 0, .bool)]⟩)]), (2096511, .join [(0, ⟨[1], [(224, 0, .bool)]⟩)]), (4193018, .loop ⟨[1, 5, 6, 8, 12, 184, 185], [(25, 0, .bool), (186, 0, (.int .i64))]⟩ [(1, ⟨[], [(4, 0, .bool)]⟩), (4, ⟨[1, 5, 6, 8], [(25, 0, .bool)]⟩)]), (33544147, .join [(0, ⟨[1, 5, 6, 8, 12, 184, 185, 186], [(25, 0, .bool)]⟩), (1, ⟨[], [(4, 0, .bool)]⟩)]), (536706355, .join [(0, ⟨[1, 5, 6, 8, 12, 25, 27, 184, 185, 186], [(201, 0, .bool)]⟩)]), (262062, .join [(0, ⟨[1, 5, 6, 8, 12], [(182, 0, .bool)]⟩)]), (262058, .loop ⟨[1, 5, 6, 7, 8, 12, 16, 124, 125], [(20, 0, .bool), (126, 0, (.int .i64))]⟩ [(2, ⟨[1, 5, 6, 7, 8, 12], [(20, 0, .bool)]⟩)]), (2096467, .join [(0, ⟨[1, 5, 6, 7, 8, 12, 16, 124, 125, 126], [(20, 0, .bool)]⟩)]), (2046, .join [(0, ⟨[1, 5, 6, 7, 8, 9, 12, 16], [(122, 0, .bool)]⟩)])]
noncomputable def e_laws_FnChosen : Ent := mkE tysC 4 [e_spec_DrawChooseTarget, e_impl_ChooseTarget, e_spec_ChooseTarget, e_impl_GroupOf, e_spec_GroupOf, e_impl_CandidatesOf, e_spec_CandidatesOf, e_laws_sameInts, e_impl_GoodPolicy, e_spec_GoodPolicy, e_impl_AnswerOf, e_impl_GoodRecord, e_impl_IsUp, e_spec_DrawGroupsIn, e_impl_GroupsIn, e_spec_GroupsIn] h_laws_FnChosen Tryz.f4 [(.vw, (.lst false (.int .u8))), (.vw, (.lst false (.int .u8)))] true .bool
theorem ok_laws_FnChosen : e_laws_FnChosen.Ok Tryz.prog := mkE_ok envC (ok_cons ok_spec_DrawChooseTarget (ok_cons ok_impl_ChooseTarget (ok_cons ok_spec_ChooseTarget (ok_cons ok_impl_GroupOf (ok_cons ok_spec_GroupOf (ok_cons ok_impl_CandidatesOf (ok_cons ok_spec_CandidatesOf (ok_cons ok_laws_sameInts (ok_cons ok_impl_GoodPolicy (ok_cons ok_spec_GoodPolicy (ok_cons ok_impl_AnswerOf (ok_cons ok_impl_GoodRecord (ok_cons ok_impl_IsUp (ok_cons ok_spec_DrawGroupsIn (ok_cons ok_impl_GroupsIn (ok_cons ok_spec_GroupsIn ok_nil)))))))))))))))) Tryz.func4 (by decide +kernel) (by kernel_rfl)
end Go.Proofs.YtobighfemobgjaaGreatDoor
