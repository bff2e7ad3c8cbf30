/- The functions that the law reaches, each as a program of expressions. -/
import Derived.Test.YtbanjbafckgghaaGreatDoorLb1
import Derived.Test.YtbanjbafckgghaaGreatDoorProg
import Derived.KernelRfl
import Derived.Test.YtbanjbafckgghaaGreatDoorLays
set_option linter.unusedSectionVars false
set_option linter.unusedVariables false
set_option linter.unusedSimpArgs false
namespace Go.Proofs.YtbanjbafckgghaaGreatDoor
open Go Go.Own
set_option maxRecDepth 100000
/-- what is known of package variables: internal/bytealg.MaxLen holds a number, strconv.ErrSyntax and strconv.ErrRange an error or none, internal/strconv.uint64pow10 the powers of ten -/
instance glbI : Glb := Glb.at [(0, isInt .i64), (1, isErr), (2, isErr), (5, isArr (Lib.pow10Tab.map fun z => Value.int .u64 z).toArray)]
theorem glbMaxLen : ∀ h V, Glb.ok h V → ∃ m arr ty fz, h[Tryz.l146_ren.g 1]? = some (.cells arr ty fz) ∧ arr[0]? = some (.int .i64 m) :=
  fun _ _ h => isInt_get (h (0, isInt .i64) (by simp)).2
theorem glbSyn : ∀ h V, Glb.ok h V → ∃ ev arr ty fz, h[Tryz.l172_ren.g 15]? = some (.cells arr ty fz) ∧ arr[0]? = some ev ∧ (ev = .nilIface ∨ ∃ te pe, ev = .iface te pe) :=
  fun _ _ h => isErr_get (h (1, isErr) (by simp)).2
theorem glbRng : ∀ h V, Glb.ok h V → ∃ ev arr ty fz, h[Tryz.l172_ren.g 16]? = some (.cells arr ty fz) ∧ arr[0]? = some ev ∧ (ev = .nilIface ∨ ∃ te pe, ev = .iface te pe) :=
  fun _ _ h => isErr_get (h (2, isErr) (by simp)).2
theorem glbPow : ∀ h V, Glb.ok h V → ∃ ty fz, h[5]? = some (.cells (Lib.pow10Tab.map fun z => Value.int .u64 z).toArray ty fz) :=
  fun _ _ h => isArr_get (h (5, isArr (Lib.pow10Tab.map fun z => Value.int .u64 z).toArray) (by simp)).2
def tysC : List (TypeId × T × Nat) := [(3, (.int .i64), 0), (4, .bool, 0), (5, (.int .u8), 0), (9, .str, 0), (22, (.lst true (.pair .str (.pair .str (.pair (.int .i64) (.pair (.int .i64) .unit))))), 48), (24, (.pair .str (.pair (.lst true (.pair .str (.pair .str (.pair (.int .i64) (.pair (.int .i64) .unit))))) .unit)), 0), (27, (.lst true (.pair .str (.pair .str (.pair (.int .i64) (.pair (.int .i64) .unit))))), 48), (29, (.pair .str (.pair (.lst true (.pair .str (.pair .str (.pair (.int .i64) (.pair (.int .i64) .unit))))) .unit)), 0), (35, (.pair .str (.pair .str (.pair (.int .i64) (.pair (.int .i64) .unit)))), 0), (45, (.pair .str (.pair .str (.pair (.int .i64) (.pair (.int .i64) .unit)))), 0), (46, (.lst true .str), 16), (51, (.lst true (.int .u8)), 1), (66, (.int .u64), 0), (71, .err, 0)]
theorem envC : ∀ sig n fx fr, EnvOk Tryz.prog ⟨tyOf tysC, ebOf tysC, sig, n, fx, fr⟩ := by
  refine EnvOk.ofL (fun sig n fx fr t ht => ?_) (by kernel_rfl)
  simp only [tysC, List.map_cons, List.map_nil, List.mem_cons] at ht
  rcases ht with rfl | ht
  · exact ⟨Tryz.underlying3, rfl, by kernel_rfl, by kernel_rfl⟩
  rcases ht with rfl | ht
  · exact ⟨Tryz.underlying4, rfl, by kernel_rfl, by kernel_rfl⟩
  rcases ht with rfl | ht
  · exact ⟨Tryz.underlying5, rfl, by kernel_rfl, by kernel_rfl⟩
  rcases ht with rfl | ht
  · exact ⟨Tryz.underlying9, rfl, by kernel_rfl, by kernel_rfl⟩
  rcases ht with rfl | ht
  · exact ⟨⟨rfl, _, Tryz.underlying22, rfl, rfl, by kernel_rfl⟩, rfl, by kernel_rfl, by kernel_rfl⟩
  rcases ht with rfl | ht
  · exact ⟨⟨_, Tryz.underlying24, rfl, rfl, rfl, rfl, rfl, rfl, trivial⟩, rfl, by kernel_rfl, by kernel_rfl⟩
  rcases ht with rfl | ht
  · exact ⟨⟨rfl, _, Tryz.underlying27, rfl, rfl, by kernel_rfl⟩, rfl, by kernel_rfl, by kernel_rfl⟩
  rcases ht with rfl | ht
  · exact ⟨⟨_, Tryz.underlying29, rfl, rfl, rfl, rfl, rfl, rfl, trivial⟩, rfl, by kernel_rfl, by kernel_rfl⟩
  rcases ht with rfl | ht
  · exact ⟨⟨_, Tryz.underlying35, rfl, rfl, rfl, rfl, rfl, rfl, rfl, rfl, rfl, rfl, rfl, rfl, trivial⟩, rfl, by kernel_rfl, by kernel_rfl⟩
  rcases ht with rfl | ht
  · exact ⟨⟨_, Tryz.underlying45, rfl, rfl, rfl, rfl, rfl, rfl, rfl, rfl, rfl, rfl, rfl, rfl, trivial⟩, rfl, by kernel_rfl, by kernel_rfl⟩
  rcases ht with rfl | ht
  · exact ⟨⟨rfl, _, Tryz.underlying46, rfl, rfl, by kernel_rfl⟩, rfl, by kernel_rfl, by kernel_rfl⟩
  rcases ht with rfl | ht
  · exact ⟨⟨rfl, _, Tryz.underlying51, rfl, rfl, by kernel_rfl⟩, rfl, by kernel_rfl, by kernel_rfl⟩
  rcases ht with rfl | ht
  · exact ⟨Tryz.underlying66, rfl, by kernel_rfl, by kernel_rfl⟩
  rcases ht with rfl | ht
  · exact ⟨⟨_, Tryz.underlying71⟩, rfl, by kernel_rfl, by kernel_rfl⟩
  cases ht

/-- loop.example/g00300/laws.szTarget -/
def h_laws_szTarget : List (Nat × Hint) := []
noncomputable def p_laws_szTarget : PE := (comp tysC [] h_laws_szTarget Tryz.f20 [(.vw, (.pair .str (.pair .str (.pair (.int .i64) (.pair (.int .i64) .unit))))), (.vw, (.int .i64))] true (.int .i64)).getD .bot
noncomputable def e_laws_szTarget : Ent := ⟨20, [(.vw, (.pair .str (.pair .str (.pair (.int .i64) (.pair (.int .i64) .unit))))), (.vw, (.int .i64))], true, (.int .i64), runPE [] p_laws_szTarget⟩
theorem ok_laws_szTarget : e_laws_szTarget.Ok Tryz.prog := Ent.ok_of (pe := p_laws_szTarget) (fn := Tryz.f20) (hs := h_laws_szTarget) envC ok_nil Tryz.func20 (by decide +kernel) (some_getD (d := PE.bot) (by kernel_rfl)) rfl

/-- loop.example/g00300/laws.szTargetS -/
def h_laws_szTargetS : List (Nat × Hint) := [(122, .loop ⟨[0], [(1, 0, (.int .i64)), (5, 0, (.int .i64))]⟩ [(1, ⟨[], [(4, 0, (.int .i64))]⟩), (2, ⟨[], [(1, 0, (.int .i64))]⟩)])]
noncomputable def p_laws_szTargetS : PE := (comp tysC [e_laws_szTarget] h_laws_szTargetS Tryz.f9 [(.vw, (.lst false (.pair .str (.pair .str (.pair (.int .i64) (.pair (.int .i64) .unit)))))), (.vw, (.int .i64))] true (.int .i64)).getD .bot
noncomputable def e_laws_szTargetS : Ent := ⟨9, [(.vw, (.lst false (.pair .str (.pair .str (.pair (.int .i64) (.pair (.int .i64) .unit)))))), (.vw, (.int .i64))], true, (.int .i64), runPE [e_laws_szTarget] p_laws_szTargetS⟩
theorem ok_laws_szTargetS : e_laws_szTargetS.Ok Tryz.prog := Ent.ok_of (pe := p_laws_szTargetS) (fn := Tryz.f9) (hs := h_laws_szTargetS) envC (ok_cons ok_laws_szTarget ok_nil) Tryz.func9 (by decide +kernel) (some_getD (d := PE.bot) (by kernel_rfl)) rfl

/-- loop.example/g00300/laws.szPolicy -/
def h_laws_szPolicy : List (Nat × Hint) := []
noncomputable def p_laws_szPolicy : PE := (comp tysC [e_laws_szTargetS] h_laws_szPolicy Tryz.f4 [(.vw, (.pair .str (.pair (.lst false (.pair .str (.pair .str (.pair (.int .i64) (.pair (.int .i64) .unit))))) .unit))), (.vw, (.int .i64))] true (.int .i64)).getD .bot
noncomputable def e_laws_szPolicy : Ent := ⟨4, [(.vw, (.pair .str (.pair (.lst false (.pair .str (.pair .str (.pair (.int .i64) (.pair (.int .i64) .unit))))) .unit))), (.vw, (.int .i64))], true, (.int .i64), runPE [e_laws_szTargetS] p_laws_szPolicy⟩
theorem ok_laws_szPolicy : e_laws_szPolicy.Ok Tryz.prog := Ent.ok_of (pe := p_laws_szPolicy) (fn := Tryz.f4) (hs := h_laws_szPolicy) envC (ok_cons ok_laws_szTargetS ok_nil) Tryz.func4 (by decide +kernel) (some_getD (d := PE.bot) (by kernel_rfl)) rfl

/-- loop.example/g00300/laws.toTarget -/
def h_laws_toTarget : List (Nat × Hint) := []
noncomputable def p_laws_toTarget : PE := (comp tysC [] h_laws_toTarget Tryz.f27 [(.vw, (.pair .str (.pair .str (.pair (.int .i64) (.pair (.int .i64) .unit)))))] true (.pair .str (.pair .str (.pair (.int .i64) (.pair (.int .i64) .unit))))).getD .bot
noncomputable def e_laws_toTarget : Ent := ⟨27, [(.vw, (.pair .str (.pair .str (.pair (.int .i64) (.pair (.int .i64) .unit)))))], true, (.pair .str (.pair .str (.pair (.int .i64) (.pair (.int .i64) .unit)))), runPE [] p_laws_toTarget⟩
theorem ok_laws_toTarget : e_laws_toTarget.Ok Tryz.prog := Ent.ok_of (pe := p_laws_toTarget) (fn := Tryz.f27) (hs := h_laws_toTarget) envC ok_nil Tryz.func27 (by decide +kernel) (some_getD (d := PE.bot) (by kernel_rfl)) rfl

/-- loop.example/g00300/laws.toTargetS -/
def h_laws_toTargetS : List (Nat × Hint) := [(58, .loop ⟨[0], [(3, 0, (.lst true (.pair .str (.pair .str (.pair (.int .i64) (.pair (.int .i64) .unit)))))), (4, 0, (.int .i64))]⟩ [(2, ⟨[], [(3, 0, (.lst true (.pair .str (.pair .str (.pair (.int .i64) (.pair (.int .i64) .unit))))))]⟩)]), (0, .frz [2])]
noncomputable def p_laws_toTargetS : PE := (comp tysC [e_laws_toTarget] h_laws_toTargetS Tryz.f13 [(.vw, (.lst false (.pair .str (.pair .str (.pair (.int .i64) (.pair (.int .i64) .unit))))))] true (.lst true (.pair .str (.pair .str (.pair (.int .i64) (.pair (.int .i64) .unit)))))).getD .bot
noncomputable def e_laws_toTargetS : Ent := ⟨13, [(.vw, (.lst false (.pair .str (.pair .str (.pair (.int .i64) (.pair (.int .i64) .unit))))))], true, (.lst true (.pair .str (.pair .str (.pair (.int .i64) (.pair (.int .i64) .unit))))), runPE [e_laws_toTarget] p_laws_toTargetS⟩
theorem ok_laws_toTargetS : e_laws_toTargetS.Ok Tryz.prog := Ent.ok_of (pe := p_laws_toTargetS) (fn := Tryz.f13) (hs := h_laws_toTargetS) envC (ok_cons ok_laws_toTarget ok_nil) Tryz.func13 (by decide +kernel) (some_getD (d := PE.bot) (by kernel_rfl)) rfl

/-- loop.example/g00300/laws.toPolicy -/
def h_laws_toPolicy : List (Nat × Hint) := []
noncomputable def p_laws_toPolicy : PE := (comp tysC [e_laws_toTargetS] h_laws_toPolicy Tryz.f6 [(.vw, (.pair .str (.pair (.lst false (.pair .str (.pair .str (.pair (.int .i64) (.pair (.int .i64) .unit))))) .unit)))] true (.pair .str (.pair (.lst true (.pair .str (.pair .str (.pair (.int .i64) (.pair (.int .i64) .unit))))) .unit))).getD .bot
noncomputable def e_laws_toPolicy : Ent := ⟨6, [(.vw, (.pair .str (.pair (.lst false (.pair .str (.pair .str (.pair (.int .i64) (.pair (.int .i64) .unit))))) .unit)))], true, (.pair .str (.pair (.lst true (.pair .str (.pair .str (.pair (.int .i64) (.pair (.int .i64) .unit))))) .unit)), runPE [e_laws_toTargetS] p_laws_toPolicy⟩
theorem ok_laws_toPolicy : e_laws_toPolicy.Ok Tryz.prog := Ent.ok_of (pe := p_laws_toPolicy) (fn := Tryz.f6) (hs := h_laws_toPolicy) envC (ok_cons ok_laws_toTargetS ok_nil) Tryz.func6 (by decide +kernel) (some_getD (d := PE.bot) (by kernel_rfl)) rfl

/-- loop.example/g00300/spec.l1Split -/
def h_spec_l1Split : List (Nat × Hint) := [(122, .loop ⟨[0, 1], [(5, 0, (.lst true .str)), (6, 0, (.int .i64)), (7, 0, (.int .i64))]⟩ [(2, ⟨[0], [(5, 0, (.lst true .str)), (6, 0, (.int .i64))]⟩)]), (489, .join [(0, ⟨[0, 1, 7], [(5, 0, (.lst true .str)), (6, 0, (.int .i64))]⟩)])]
noncomputable def p_spec_l1Split : PE := (comp tysC [] h_spec_l1Split Tryz.f21 [(.vw, .str), (.vw, (.int .u8))] true (.lst true .str)).getD .bot
noncomputable def e_spec_l1Split : Ent := ⟨21, [(.vw, .str), (.vw, (.int .u8))], true, (.lst true .str), runPE [] p_spec_l1Split⟩
theorem ok_spec_l1Split : e_spec_l1Split.Ok Tryz.prog := Ent.ok_of (pe := p_spec_l1Split) (fn := Tryz.f21) (hs := h_spec_l1Split) envC ok_nil Tryz.func21 (by decide +kernel) (some_getD (d := PE.bot) (by kernel_rfl)) rfl

/-- loop.example/g00300/spec.l1In -/
def h_spec_l1In : List (Nat × Hint) := [(3, .join [(0, ⟨[], [(6, 0, .bool)]⟩)])]
noncomputable def p_spec_l1In : PE := (comp tysC [] h_spec_l1In Tryz.f12 [(.vw, (.int .i64)), (.vw, (.int .i64)), (.vw, (.int .i64))] true .bool).getD .bot
noncomputable def e_spec_l1In : Ent := ⟨12, [(.vw, (.int .i64)), (.vw, (.int .i64)), (.vw, (.int .i64))], true, .bool, runPE [] p_spec_l1In⟩
theorem ok_spec_l1In : e_spec_l1In.Ok Tryz.prog := Ent.ok_of (pe := p_spec_l1In) (fn := Tryz.f12) (hs := h_spec_l1In) envC ok_nil Tryz.func12 (by decide +kernel) (some_getD (d := PE.bot) (by kernel_rfl)) rfl

/-- loop.example/g00300/spec.l1Int -/
def h_spec_l1Int : List (Nat × Hint) := [(122, .loop ⟨[0], [(3, 0, (.int .i64)), (4, 0, (.int .i64))]⟩ [(1, ⟨[], [(2, 0, (.int .i64))]⟩), (2, ⟨[], [(3, 0, (.int .i64))]⟩)]), (3912, .join [(0, ⟨[0, 3, 4], [(34, 0, .bool)]⟩)]), (6, .join [(0, ⟨[0], [(18, 0, .bool)]⟩)])]
noncomputable def p_spec_l1Int : PE := (comp tysC [e_spec_l1In] h_spec_l1Int Tryz.f22 [(.vw, .str)] true (.int .i64)).getD .bot
noncomputable def e_spec_l1Int : Ent := ⟨22, [(.vw, .str)], true, (.int .i64), runPE [e_spec_l1In] p_spec_l1Int⟩
theorem ok_spec_l1Int : e_spec_l1Int.Ok Tryz.prog := Ent.ok_of (pe := p_spec_l1Int) (fn := Tryz.f22) (hs := h_spec_l1Int) envC (ok_cons ok_spec_l1In ok_nil) Tryz.func22 (by decide +kernel) (some_getD (d := PE.bot) (by kernel_rfl)) rfl

/-- loop.example/g00300/spec.l3Number -/
def h_spec_l3Number : List (Nat × Hint) := [(58, .loop ⟨[], [(0, 0, (.int .i64)), (5, 0, (.lst true (.int .u8))), (6, 0, (.int .i64))]⟩ [(2, ⟨[], [(5, 0, (.lst true (.int .u8)))]⟩)])]
noncomputable def p_spec_l3Number : PE := (comp tysC [] h_spec_l3Number Tryz.f23 [(.vw, (.int .i64)), (.vw, (.int .i64))] true .str).getD .bot
noncomputable def e_spec_l3Number : Ent := ⟨23, [(.vw, (.int .i64)), (.vw, (.int .i64))], true, .str, runPE [] p_spec_l3Number⟩
theorem ok_spec_l3Number : e_spec_l3Number.Ok Tryz.prog := Ent.ok_of (pe := p_spec_l3Number) (fn := Tryz.f23) (hs := h_spec_l3Number) envC ok_nil Tryz.func23 (by decide +kernel) (some_getD (d := PE.bot) (by kernel_rfl)) rfl

/-- loop.example/g00300/spec.l1Label -/
def h_spec_l1Label : List (Nat × Hint) := [(58, .loop ⟨[0], [(3, 0, (.int .i64))]⟩ [(1, ⟨[2], []⟩), (2, ⟨[0], []⟩)]), (1865, .join [(0, ⟨[0, 3], [(38, 0, .bool)]⟩)])]
noncomputable def p_spec_l1Label : PE := (comp tysC [e_spec_l1In] h_spec_l1Label Tryz.f42 [(.vw, .str)] true .bool).getD .bot
noncomputable def e_spec_l1Label : Ent := ⟨42, [(.vw, .str)], true, .bool, runPE [e_spec_l1In] p_spec_l1Label⟩
theorem ok_spec_l1Label : e_spec_l1Label.Ok Tryz.prog := Ent.ok_of (pe := p_spec_l1Label) (fn := Tryz.f42) (hs := h_spec_l1Label) envC (ok_cons ok_spec_l1In ok_nil) Tryz.func42 (by decide +kernel) (some_getD (d := PE.bot) (by kernel_rfl)) rfl

/-- loop.example/g00300/spec.l1Labels -/
def h_spec_l1Labels : List (Nat × Hint) := [(31, .join [(0, ⟨[], [(2, 0, (.lst true .str)), (3, 0, .bool)]⟩)]), (122, .loop ⟨[0, 4, 11, 12], [(13, 0, (.int .i64))]⟩ [(1, ⟨[2, 3], []⟩), (2, ⟨[0, 4], []⟩)])]
noncomputable def p_spec_l1Labels : PE := (comp tysC [e_spec_l1Split, e_spec_l1Label] h_spec_l1Labels Tryz.f26 [(.vw, .str)] false (.pair (.lst true .str) (.pair .bool .unit))).getD .bot
noncomputable def e_spec_l1Labels : Ent := ⟨26, [(.vw, .str)], false, (.pair (.lst true .str) (.pair .bool .unit)), runPE [e_spec_l1Split, e_spec_l1Label] p_spec_l1Labels⟩
theorem ok_spec_l1Labels : e_spec_l1Labels.Ok Tryz.prog := Ent.ok_of (pe := p_spec_l1Labels) (fn := Tryz.f26) (hs := h_spec_l1Labels) envC (ok_cons ok_spec_l1Split (ok_cons ok_spec_l1Label ok_nil)) Tryz.func26 (by decide +kernel) (some_getD (d := PE.bot) (by kernel_rfl)) rfl

/-- loop.example/g00300/spec.l3Target -/
def h_spec_l3Target : List (Nat × Hint) := [(15, .join [(0, ⟨[], [(2, 0, .bool)]⟩)]), (58, .loop ⟨[0, 3, 12, 13], [(4, 0, .bool), (14, 0, (.int .i64))]⟩ [(2, ⟨[0], [(4, 0, .bool)]⟩)]), (467, .join [(0, ⟨[0, 3, 12, 13, 14], [(4, 0, .bool)]⟩)])]
noncomputable def p_spec_l3Target : PE := (comp tysC [e_spec_l1Labels] h_spec_l3Target Tryz.f24 [(.vw, .str)] true .bool).getD .bot
noncomputable def e_spec_l3Target : Ent := ⟨24, [(.vw, .str)], true, .bool, runPE [e_spec_l1Labels] p_spec_l3Target⟩
theorem ok_spec_l3Target : e_spec_l3Target.Ok Tryz.prog := Ent.ok_of (pe := p_spec_l3Target) (fn := Tryz.f24) (hs := h_spec_l3Target) envC (ok_cons ok_spec_l1Labels ok_nil) Tryz.func24 (by decide +kernel) (some_getD (d := PE.bot) (by kernel_rfl)) rfl

/-- loop.example/g00300/spec.l2Bytes -/
def h_spec_l2Bytes : List (Nat × Hint) := [(122, .loop ⟨[3, 13, 14], [(5, 0, .str), (15, 0, (.int .i64))]⟩ [(2, ⟨[], [(5, 0, .str)]⟩)])]
noncomputable def p_spec_l2Bytes : PE := (comp tysC [e_spec_l1Labels] h_spec_l2Bytes Tryz.f25 [(.vw, .str)] true .str).getD .bot
noncomputable def e_spec_l2Bytes : Ent := ⟨25, [(.vw, .str)], true, .str, runPE [e_spec_l1Labels] p_spec_l2Bytes⟩
theorem ok_spec_l2Bytes : e_spec_l2Bytes.Ok Tryz.prog := Ent.ok_of (pe := p_spec_l2Bytes) (fn := Tryz.f25) (hs := h_spec_l2Bytes) envC (ok_cons ok_spec_l1Labels ok_nil) Tryz.func25 (by decide +kernel) (some_getD (d := PE.bot) (by kernel_rfl)) rfl

/-- loop.example/g00300/spec.l3Bytes -/
def h_spec_l3Bytes : List (Nat × Hint) := [(221170, .loop ⟨[1], [(13, 0, (.int .i64))]⟩ [(1, ⟨[], [(4, 0, .str), (5, 0, .bool)]⟩), (5, ⟨[1], []⟩)]), (3538724, .join [(0, ⟨[1, 13], [(104, 0, .bool)]⟩)]), (27642, .join [(0, ⟨[12], [(76, 0, .bool)]⟩)]), (107, .join [(0, ⟨[1, 14], [(39, 0, .bool)]⟩)]), (3418, .loop ⟨[7, 19, 20], [(6, 0, .str), (21, 0, (.int .i64))]⟩ [(1, ⟨[4, 5], []⟩), (3, ⟨[7], [(6, 0, .str)]⟩)])]
noncomputable def p_spec_l3Bytes : PE := (comp tysC [e_spec_l1Split, e_spec_l1Int, e_spec_l1In, e_spec_l3Number, e_spec_l3Target, e_spec_l2Bytes] h_spec_l3Bytes Tryz.f10 [(.vw, (.int .i64)), (.vw, .str)] false (.pair .str (.pair .bool .unit))).getD .bot
noncomputable def e_spec_l3Bytes : Ent := ⟨10, [(.vw, (.int .i64)), (.vw, .str)], false, (.pair .str (.pair .bool .unit)), runPE [e_spec_l1Split, e_spec_l1Int, e_spec_l1In, e_spec_l3Number, e_spec_l3Target, e_spec_l2Bytes] p_spec_l3Bytes⟩
theorem ok_spec_l3Bytes : e_spec_l3Bytes.Ok Tryz.prog := Ent.ok_of (pe := p_spec_l3Bytes) (fn := Tryz.f10) (hs := h_spec_l3Bytes) envC (ok_cons ok_spec_l1Split (ok_cons ok_spec_l1Int (ok_cons ok_spec_l1In (ok_cons ok_spec_l3Number (ok_cons ok_spec_l3Target (ok_cons ok_spec_l2Bytes ok_nil)))))) Tryz.func10 (by decide +kernel) (some_getD (d := PE.bot) (by kernel_rfl)) rfl

/-- loop.example/g00300/spec.GoodName -/
def h_spec_GoodName : List (Nat × Hint) := []
noncomputable def p_spec_GoodName : PE := (comp tysC [e_spec_l1Labels] h_spec_GoodName Tryz.f11 [(.vw, .str)] true .bool).getD .bot
noncomputable def e_spec_GoodName : Ent := ⟨11, [(.vw, .str)], true, .bool, runPE [e_spec_l1Labels] p_spec_GoodName⟩
theorem ok_spec_GoodName : e_spec_GoodName.Ok Tryz.prog := Ent.ok_of (pe := p_spec_GoodName) (fn := Tryz.f11) (hs := h_spec_GoodName) envC (ok_cons ok_spec_l1Labels ok_nil) Tryz.func11 (by decide +kernel) (some_getD (d := PE.bot) (by kernel_rfl)) rfl

/-- loop.example/g00300/spec.GoodPolicy -/
def h_spec_GoodPolicy : List (Nat × Hint) := [(7, .join [(0, ⟨[], [(2, 0, .bool)]⟩)]), (26, .loop ⟨[1, 8, 9], [(10, 0, (.int .i64))]⟩ [(1, ⟨[2], []⟩), (2, ⟨[1], []⟩)]), (3379, .join [(0, ⟨[1, 8, 9, 10], [(39, 0, .bool)]⟩)])]
noncomputable def p_spec_GoodPolicy : PE := (comp tysC [e_spec_l3Bytes, e_spec_GoodName, e_spec_l1In] h_spec_GoodPolicy Tryz.f5 [(.vw, (.pair .str (.pair (.lst false (.pair .str (.pair .str (.pair (.int .i64) (.pair (.int .i64) .unit))))) .unit)))] true .bool).getD .bot
noncomputable def e_spec_GoodPolicy : Ent := ⟨5, [(.vw, (.pair .str (.pair (.lst false (.pair .str (.pair .str (.pair (.int .i64) (.pair (.int .i64) .unit))))) .unit)))], true, .bool, runPE [e_spec_l3Bytes, e_spec_GoodName, e_spec_l1In] p_spec_GoodPolicy⟩
theorem ok_spec_GoodPolicy : e_spec_GoodPolicy.Ok Tryz.prog := Ent.ok_of (pe := p_spec_GoodPolicy) (fn := Tryz.f5) (hs := h_spec_GoodPolicy) envC (ok_cons ok_spec_l3Bytes (ok_cons ok_spec_GoodName (ok_cons ok_spec_l1In ok_nil))) Tryz.func5 (by decide +kernel) (some_getD (d := PE.bot) (by kernel_rfl)) rfl

/-- strings.Split -/
noncomputable abbrev e_strings_Split : Ent := splitE 33
theorem ok_strings_Split : e_strings_Split.Ok Tryz.prog := splitE_ok Tryz.l146 (by kernel_rfl) Tryz.func33 (by decide +kernel) rfl glbMaxLen

/-- loop.example/g00300/impl.labelsOf -/
def h_impl_labelsOf : List (Nat × Hint) := []
noncomputable def p_impl_labelsOf : PE := (comp tysC [e_strings_Split] h_impl_labelsOf Tryz.f28 [(.vw, .str)] true (.lst true .str)).getD .bot
noncomputable def e_impl_labelsOf : Ent := ⟨28, [(.vw, .str)], true, (.lst true .str), runPE [e_strings_Split] p_impl_labelsOf⟩
theorem ok_impl_labelsOf : e_impl_labelsOf.Ok Tryz.prog := Ent.ok_of (pe := p_impl_labelsOf) (fn := Tryz.f28) (hs := h_impl_labelsOf) envC (ok_cons ok_strings_Split ok_nil) Tryz.func28 (by decide +kernel) (some_getD (d := PE.bot) (by kernel_rfl)) rfl

/-- loop.example/g00300/impl.within -/
def h_impl_within : List (Nat × Hint) := [(3, .join [(0, ⟨[], [(6, 0, .bool)]⟩)])]
noncomputable def p_impl_within : PE := (comp tysC [] h_impl_within Tryz.f15 [(.vw, (.int .i64)), (.vw, (.int .i64)), (.vw, (.int .i64))] true .bool).getD .bot
noncomputable def e_impl_within : Ent := ⟨15, [(.vw, (.int .i64)), (.vw, (.int .i64)), (.vw, (.int .i64))], true, .bool, runPE [] p_impl_within⟩
theorem ok_impl_within : e_impl_within.Ok Tryz.prog := Ent.ok_of (pe := p_impl_within) (fn := Tryz.f15) (hs := h_impl_within) envC ok_nil Tryz.func15 (by decide +kernel) (some_getD (d := PE.bot) (by kernel_rfl)) rfl

/-- strings.Trim -/
noncomputable abbrev e_strings_Trim : Ent := trimE 44
theorem ok_strings_Trim : e_strings_Trim.Ok Tryz.prog := trimE_ok Tryz.l160 (by kernel_rfl) (by kernel_rfl) Tryz.func44 (by decide +kernel) rfl

/-- loop.example/g00300/impl.isLabel -/
def h_impl_isLabel : List (Nat × Hint) := [(7, .join [(0, ⟨[], [(2, 0, .bool)]⟩)])]
noncomputable def p_impl_isLabel : PE := (comp tysC [e_impl_within, e_strings_Trim] h_impl_isLabel Tryz.f31 [(.vw, .str)] true .bool).getD .bot
noncomputable def e_impl_isLabel : Ent := ⟨31, [(.vw, .str)], true, .bool, runPE [e_impl_within, e_strings_Trim] p_impl_isLabel⟩
theorem ok_impl_isLabel : e_impl_isLabel.Ok Tryz.prog := Ent.ok_of (pe := p_impl_isLabel) (fn := Tryz.f31) (hs := h_impl_isLabel) envC (ok_cons ok_impl_within (ok_cons ok_strings_Trim ok_nil)) Tryz.func31 (by decide +kernel) (some_getD (d := PE.bot) (by kernel_rfl)) rfl

/-- loop.example/g00300/impl.GoodName$1 -/
def h_impl_GoodName_1 : List (Nat × Hint) := []
noncomputable def p_impl_GoodName_1 : PE := (comp tysC [e_impl_isLabel] h_impl_GoodName_1 Tryz.f30 [(.vw, .str)] true .bool).getD .bot
noncomputable def e_impl_GoodName_1 : Ent := ⟨30, [(.vw, .str)], true, .bool, runPE [e_impl_isLabel] p_impl_GoodName_1⟩
theorem ok_impl_GoodName_1 : e_impl_GoodName_1.Ok Tryz.prog := Ent.ok_of (pe := p_impl_GoodName_1) (fn := Tryz.f30) (hs := h_impl_GoodName_1) envC (ok_cons ok_impl_isLabel ok_nil) Tryz.func30 (by decide +kernel) (some_getD (d := PE.bot) (by kernel_rfl)) rfl

/-- slices.IndexFunc[[]string,string] -/
def h_slices_IndexFunc_string_string__impl_GoodName_1 : List (Nat × Hint) := [(26, .loop ⟨[0, 1, 7], [(8, 0, (.int .i64))]⟩ [(1, ⟨[], [(4, 0, (.int .i64))]⟩), (2, ⟨[], []⟩)])]
noncomputable def p_slices_IndexFunc_string_string__impl_GoodName_1 : PE := (comp tysC [e_impl_GoodName_1] h_slices_IndexFunc_string_string__impl_GoodName_1 Tryz.f43 [(.vw, (.lst false .str)), (.vw, (.fn 30 .unit))] true (.int .i64)).getD .bot
noncomputable def e_slices_IndexFunc_string_string__impl_GoodName_1 : Ent := ⟨43, [(.vw, (.lst false .str)), (.vw, (.fn 30 .unit))], true, (.int .i64), runPE [e_impl_GoodName_1] p_slices_IndexFunc_string_string__impl_GoodName_1⟩
theorem ok_slices_IndexFunc_string_string__impl_GoodName_1 : e_slices_IndexFunc_string_string__impl_GoodName_1.Ok Tryz.prog := Ent.ok_of (pe := p_slices_IndexFunc_string_string__impl_GoodName_1) (fn := Tryz.f43) (hs := h_slices_IndexFunc_string_string__impl_GoodName_1) envC (ok_cons ok_impl_GoodName_1 ok_nil) Tryz.func43 (by decide +kernel) (some_getD (d := PE.bot) (by kernel_rfl)) rfl

/-- slices.ContainsFunc[[]string,string] -/
def h_slices_ContainsFunc_string_string__impl_GoodName_1 : List (Nat × Hint) := []
noncomputable def p_slices_ContainsFunc_string_string__impl_GoodName_1 : PE := (comp tysC [e_slices_IndexFunc_string_string__impl_GoodName_1] h_slices_ContainsFunc_string_string__impl_GoodName_1 Tryz.f29 [(.vw, (.lst false .str)), (.vw, (.fn 30 .unit))] true .bool).getD .bot
noncomputable def e_slices_ContainsFunc_string_string__impl_GoodName_1 : Ent := ⟨29, [(.vw, (.lst false .str)), (.vw, (.fn 30 .unit))], true, .bool, runPE [e_slices_IndexFunc_string_string__impl_GoodName_1] p_slices_ContainsFunc_string_string__impl_GoodName_1⟩
theorem ok_slices_ContainsFunc_string_string__impl_GoodName_1 : e_slices_ContainsFunc_string_string__impl_GoodName_1.Ok Tryz.prog := Ent.ok_of (pe := p_slices_ContainsFunc_string_string__impl_GoodName_1) (fn := Tryz.f29) (hs := h_slices_ContainsFunc_string_string__impl_GoodName_1) envC (ok_cons ok_slices_IndexFunc_string_string__impl_GoodName_1 ok_nil) Tryz.func29 (by decide +kernel) (some_getD (d := PE.bot) (by kernel_rfl)) rfl

/-- loop.example/g00300/impl.GoodName -/
def h_impl_GoodName : List (Nat × Hint) := [(15, .join [(0, ⟨[], [(2, 0, .bool)]⟩)])]
noncomputable def p_impl_GoodName : PE := (comp tysC [e_impl_labelsOf, e_slices_ContainsFunc_string_string__impl_GoodName_1] h_impl_GoodName Tryz.f14 [(.vw, .str)] true .bool).getD .bot
noncomputable def e_impl_GoodName : Ent := ⟨14, [(.vw, .str)], true, .bool, runPE [e_impl_labelsOf, e_slices_ContainsFunc_string_string__impl_GoodName_1] p_impl_GoodName⟩
theorem ok_impl_GoodName : e_impl_GoodName.Ok Tryz.prog := Ent.ok_of (pe := p_impl_GoodName) (fn := Tryz.f14) (hs := h_impl_GoodName) envC (ok_cons ok_impl_labelsOf (ok_cons ok_slices_ContainsFunc_string_string__impl_GoodName_1 ok_nil)) Tryz.func14 (by decide +kernel) (some_getD (d := PE.bot) (by kernel_rfl)) rfl

/-- strconv.Atoi -/
noncomputable abbrev e_strconv_Atoi : Ent := atoiE 46
theorem ok_strconv_Atoi : e_strconv_Atoi.Ok Tryz.prog := atoiE_ok Tryz.l172 (by kernel_rfl) Tryz.func46 (by decide +kernel) rfl glbSyn glbRng

/-- strconv.Itoa -/
noncomputable abbrev e_strconv_Itoa : Ent := itoaE 47
theorem ok_strconv_Itoa : e_strconv_Itoa.Ok Tryz.prog := itoaE_ok Tryz.l171 (by kernel_rfl) Tryz.func47 (by decide +kernel) rfl (by kernel_rfl) glbPow

/-- loop.example/g00300/impl.numberIn -/
def h_impl_numberIn : List (Nat × Hint) := [(7, .join [(0, ⟨[], [(4, 0, (.int .i64)), (5, 0, .bool)]⟩)])]
noncomputable def p_impl_numberIn : PE := (comp tysC [e_strconv_Atoi, e_impl_within, e_strconv_Itoa] h_impl_numberIn Tryz.f34 [(.vw, .str), (.vw, (.int .i64))] false (.pair (.int .i64) (.pair .bool .unit))).getD .bot
noncomputable def e_impl_numberIn : Ent := ⟨34, [(.vw, .str), (.vw, (.int .i64))], false, (.pair (.int .i64) (.pair .bool .unit)), runPE [e_strconv_Atoi, e_impl_within, e_strconv_Itoa] p_impl_numberIn⟩
theorem ok_impl_numberIn : e_impl_numberIn.Ok Tryz.prog := Ent.ok_of (pe := p_impl_numberIn) (fn := Tryz.f34) (hs := h_impl_numberIn) envC (ok_cons ok_strconv_Atoi (ok_cons ok_impl_within (ok_cons ok_strconv_Itoa ok_nil))) Tryz.func34 (by decide +kernel) (some_getD (d := PE.bot) (by kernel_rfl)) rfl

/-- loop.example/g00300/impl.big -/
def h_impl_big : List (Nat × Hint) := [(58, .loop ⟨[0], [(5, 0, (.lst true (.int .u8))), (6, 0, (.int .i64))]⟩ [(2, ⟨[], [(5, 0, (.lst true (.int .u8)))]⟩)])]
noncomputable def p_impl_big : PE := (comp tysC [] h_impl_big Tryz.f35 [(.vw, (.int .i64)), (.vw, (.int .i64))] true .str).getD .bot
noncomputable def e_impl_big : Ent := ⟨35, [(.vw, (.int .i64)), (.vw, (.int .i64))], true, .str, runPE [] p_impl_big⟩
theorem ok_impl_big : e_impl_big.Ok Tryz.prog := Ent.ok_of (pe := p_impl_big) (fn := Tryz.f35) (hs := h_impl_big) envC ok_nil Tryz.func35 (by decide +kernel) (some_getD (d := PE.bot) (by kernel_rfl)) rfl

/-- strings.Contains -/
noncomputable abbrev e_strings_Contains : Ent := containsE 48
theorem ok_strings_Contains : e_strings_Contains.Ok Tryz.prog := containsE_ok Tryz.l144 (by kernel_rfl) Tryz.func48 (by decide +kernel) rfl glbMaxLen

/-- loop.example/g00300/impl.isTarget -/
def h_impl_isTarget : List (Nat × Hint) := [(3, .join [(0, ⟨[], [(2, 0, .bool)]⟩)])]
noncomputable def p_impl_isTarget : PE := (comp tysC [e_impl_GoodName, e_strings_Contains] h_impl_isTarget Tryz.f36 [(.vw, .str)] true .bool).getD .bot
noncomputable def e_impl_isTarget : Ent := ⟨36, [(.vw, .str)], true, .bool, runPE [e_impl_GoodName, e_strings_Contains] p_impl_isTarget⟩
theorem ok_impl_isTarget : e_impl_isTarget.Ok Tryz.prog := Ent.ok_of (pe := p_impl_isTarget) (fn := Tryz.f36) (hs := h_impl_isTarget) envC (ok_cons ok_impl_GoodName (ok_cons ok_strings_Contains ok_nil)) Tryz.func36 (by decide +kernel) (some_getD (d := PE.bot) (by kernel_rfl)) rfl

/-- loop.example/g00300/impl.labelBytes -/
def h_impl_labelBytes : List (Nat × Hint) := [(58, .loop ⟨[7, 8], [(3, 0, .str), (9, 0, (.int .i64))]⟩ [(2, ⟨[], [(3, 0, .str)]⟩)])]
noncomputable def p_impl_labelBytes : PE := (comp tysC [e_impl_labelsOf] h_impl_labelBytes Tryz.f37 [(.vw, .str)] true .str).getD .bot
noncomputable def e_impl_labelBytes : Ent := ⟨37, [(.vw, .str)], true, .str, runPE [e_impl_labelsOf] p_impl_labelBytes⟩
theorem ok_impl_labelBytes : e_impl_labelBytes.Ok Tryz.prog := Ent.ok_of (pe := p_impl_labelBytes) (fn := Tryz.f37) (hs := h_impl_labelBytes) envC (ok_cons ok_impl_labelsOf ok_nil) Tryz.func37 (by decide +kernel) (some_getD (d := PE.bot) (by kernel_rfl)) rfl

/-- strings.Cut -/
noncomputable abbrev e_strings_Cut : Ent := cutE 38
theorem ok_strings_Cut : e_strings_Cut.Ok Tryz.prog := cutE_ok Tryz.l145 (by kernel_rfl) Tryz.func38 (by decide +kernel) rfl glbMaxLen

/-- loop.example/g00300/impl.DataBytes$1 -/
def h_impl_DataBytes_1 : List (Nat × Hint) := [(3, .join [(0, ⟨[], [(2, 0, .bool)]⟩)])]
noncomputable def p_impl_DataBytes_1 : PE := (comp tysC [] h_impl_DataBytes_1 Tryz.f40 [(.vw, (.int .u8))] true .bool).getD .bot
noncomputable def e_impl_DataBytes_1 : Ent := ⟨40, [(.vw, (.int .u8))], true, .bool, runPE [] p_impl_DataBytes_1⟩
theorem ok_impl_DataBytes_1 : e_impl_DataBytes_1.Ok Tryz.prog := Ent.ok_of (pe := p_impl_DataBytes_1) (fn := Tryz.f40) (hs := h_impl_DataBytes_1) envC ok_nil Tryz.func40 (by decide +kernel) (some_getD (d := PE.bot) (by kernel_rfl)) rfl

/-- slices.IndexFunc[[]byte,byte] -/
def h_slices_IndexFunc_byte_byte__impl_DataBytes_1 : List (Nat × Hint) := [(26, .loop ⟨[0, 1, 7], [(8, 0, (.int .i64))]⟩ [(1, ⟨[], [(4, 0, (.int .i64))]⟩), (2, ⟨[], []⟩)])]
noncomputable def p_slices_IndexFunc_byte_byte__impl_DataBytes_1 : PE := (comp tysC [e_impl_DataBytes_1] h_slices_IndexFunc_byte_byte__impl_DataBytes_1 Tryz.f50 [(.vw, (.lst false (.int .u8))), (.vw, (.fn 40 .unit))] true (.int .i64)).getD .bot
noncomputable def e_slices_IndexFunc_byte_byte__impl_DataBytes_1 : Ent := ⟨50, [(.vw, (.lst false (.int .u8))), (.vw, (.fn 40 .unit))], true, (.int .i64), runPE [e_impl_DataBytes_1] p_slices_IndexFunc_byte_byte__impl_DataBytes_1⟩
theorem ok_slices_IndexFunc_byte_byte__impl_DataBytes_1 : e_slices_IndexFunc_byte_byte__impl_DataBytes_1.Ok Tryz.prog := Ent.ok_of (pe := p_slices_IndexFunc_byte_byte__impl_DataBytes_1) (fn := Tryz.f50) (hs := h_slices_IndexFunc_byte_byte__impl_DataBytes_1) envC (ok_cons ok_impl_DataBytes_1 ok_nil) Tryz.func50 (by decide +kernel) (some_getD (d := PE.bot) (by kernel_rfl)) rfl

/-- slices.ContainsFunc[[]byte,byte] -/
def h_slices_ContainsFunc_byte_byte__impl_DataBytes_1 : List (Nat × Hint) := []
noncomputable def p_slices_ContainsFunc_byte_byte__impl_DataBytes_1 : PE := (comp tysC [e_slices_IndexFunc_byte_byte__impl_DataBytes_1] h_slices_ContainsFunc_byte_byte__impl_DataBytes_1 Tryz.f39 [(.vw, (.lst false (.int .u8))), (.vw, (.fn 40 .unit))] true .bool).getD .bot
noncomputable def e_slices_ContainsFunc_byte_byte__impl_DataBytes_1 : Ent := ⟨39, [(.vw, (.lst false (.int .u8))), (.vw, (.fn 40 .unit))], true, .bool, runPE [e_slices_IndexFunc_byte_byte__impl_DataBytes_1] p_slices_ContainsFunc_byte_byte__impl_DataBytes_1⟩
theorem ok_slices_ContainsFunc_byte_byte__impl_DataBytes_1 : e_slices_ContainsFunc_byte_byte__impl_DataBytes_1.Ok Tryz.prog := Ent.ok_of (pe := p_slices_ContainsFunc_byte_byte__impl_DataBytes_1) (fn := Tryz.f39) (hs := h_slices_ContainsFunc_byte_byte__impl_DataBytes_1) envC (ok_cons ok_slices_IndexFunc_byte_byte__impl_DataBytes_1 ok_nil) Tryz.func39 (by decide +kernel) (some_getD (d := PE.bot) (by kernel_rfl)) rfl

/-- loop.example/g00300/impl.DataBytes -/
def h_impl_DataBytes : List (Nat × Hint) := [(55292, .join [(0, ⟨[1], [(103, 0, .bool)]⟩)]), (55286, .join [(0, ⟨[15, 17], [(87, 0, .bool)]⟩)]), (107, .join [(0, ⟨[1, 19], [(48, 0, .bool)]⟩)]), (3418, .loop ⟨[7, 24, 25], [(6, 0, .str), (26, 0, (.int .i64))]⟩ [(1, ⟨[4, 5], []⟩), (3, ⟨[], [(6, 0, .str)]⟩)]), (875110, .join [(0, ⟨[6, 7, 10, 24, 25, 26], [(41, 0, .bool)]⟩)])]
noncomputable def p_impl_DataBytes : PE := (comp tysC [e_strings_Split, e_impl_numberIn, e_impl_big, e_impl_isTarget, e_impl_labelBytes, e_strings_Cut, e_slices_ContainsFunc_byte_byte__impl_DataBytes_1] h_impl_DataBytes Tryz.f18 [(.vw, (.int .i64)), (.vw, .str)] false (.pair .str (.pair .bool .unit))).getD .bot
noncomputable def e_impl_DataBytes : Ent := ⟨18, [(.vw, (.int .i64)), (.vw, .str)], false, (.pair .str (.pair .bool .unit)), runPE [e_strings_Split, e_impl_numberIn, e_impl_big, e_impl_isTarget, e_impl_labelBytes, e_strings_Cut, e_slices_ContainsFunc_byte_byte__impl_DataBytes_1] p_impl_DataBytes⟩
theorem ok_impl_DataBytes : e_impl_DataBytes.Ok Tryz.prog := Ent.ok_of (pe := p_impl_DataBytes) (fn := Tryz.f18) (hs := h_impl_DataBytes) envC (ok_cons ok_strings_Split (ok_cons ok_impl_numberIn (ok_cons ok_impl_big (ok_cons ok_impl_isTarget (ok_cons ok_impl_labelBytes (ok_cons ok_strings_Cut (ok_cons ok_slices_ContainsFunc_byte_byte__impl_DataBytes_1 ok_nil))))))) Tryz.func18 (by decide +kernel) (some_getD (d := PE.bot) (by kernel_rfl)) rfl

/-- loop.example/g00300/impl.GoodPolicy$1 -/
def h_impl_GoodPolicy_1 : List (Nat × Hint) := [(7, .join [(0, ⟨[], [(2, 0, .bool)]⟩)])]
noncomputable def p_impl_GoodPolicy_1 : PE := (comp tysC [e_impl_DataBytes, e_impl_GoodName, e_impl_within] h_impl_GoodPolicy_1 Tryz.f17 [(.vw, (.pair .str (.pair .str (.pair (.int .i64) (.pair (.int .i64) .unit)))))] true .bool).getD .bot
noncomputable def e_impl_GoodPolicy_1 : Ent := ⟨17, [(.vw, (.pair .str (.pair .str (.pair (.int .i64) (.pair (.int .i64) .unit)))))], true, .bool, runPE [e_impl_DataBytes, e_impl_GoodName, e_impl_within] p_impl_GoodPolicy_1⟩
theorem ok_impl_GoodPolicy_1 : e_impl_GoodPolicy_1.Ok Tryz.prog := Ent.ok_of (pe := p_impl_GoodPolicy_1) (fn := Tryz.f17) (hs := h_impl_GoodPolicy_1) envC (ok_cons ok_impl_DataBytes (ok_cons ok_impl_GoodName (ok_cons ok_impl_within ok_nil))) Tryz.func17 (by decide +kernel) (some_getD (d := PE.bot) (by kernel_rfl)) rfl

/-- slices.IndexFunc[[]loop.example/g00300/impl.Target,loop.example/g00300/impl.Target] -/
def h_slices_IndexFunc_impl_Target_impl_Target__impl_GoodPolicy_1 : List (Nat × Hint) := [(26, .loop ⟨[0, 1, 7], [(8, 0, (.int .i64))]⟩ [(1, ⟨[], [(4, 0, (.int .i64))]⟩), (2, ⟨[], []⟩)])]
noncomputable def p_slices_IndexFunc_impl_Target_impl_Target__impl_GoodPolicy_1 : PE := (comp tysC [e_impl_GoodPolicy_1] h_slices_IndexFunc_impl_Target_impl_Target__impl_GoodPolicy_1 Tryz.f32 [(.vw, (.lst false (.pair .str (.pair .str (.pair (.int .i64) (.pair (.int .i64) .unit)))))), (.vw, (.fn 17 .unit))] true (.int .i64)).getD .bot
noncomputable def e_slices_IndexFunc_impl_Target_impl_Target__impl_GoodPolicy_1 : Ent := ⟨32, [(.vw, (.lst false (.pair .str (.pair .str (.pair (.int .i64) (.pair (.int .i64) .unit)))))), (.vw, (.fn 17 .unit))], true, (.int .i64), runPE [e_impl_GoodPolicy_1] p_slices_IndexFunc_impl_Target_impl_Target__impl_GoodPolicy_1⟩
theorem ok_slices_IndexFunc_impl_Target_impl_Target__impl_GoodPolicy_1 : e_slices_IndexFunc_impl_Target_impl_Target__impl_GoodPolicy_1.Ok Tryz.prog := Ent.ok_of (pe := p_slices_IndexFunc_impl_Target_impl_Target__impl_GoodPolicy_1) (fn := Tryz.f32) (hs := h_slices_IndexFunc_impl_Target_impl_Target__impl_GoodPolicy_1) envC (ok_cons ok_impl_GoodPolicy_1 ok_nil) Tryz.func32 (by decide +kernel) (some_getD (d := PE.bot) (by kernel_rfl)) rfl

/-- slices.ContainsFunc[[]loop.example/g00300/impl.Target,loop.example/g00300/impl.Target] -/
def h_slices_ContainsFunc_impl_Target_impl_Target__impl_GoodPolicy_1 : List (Nat × Hint) := []
noncomputable def p_slices_ContainsFunc_impl_Target_impl_Target__impl_GoodPolicy_1 : PE := (comp tysC [e_slices_IndexFunc_impl_Target_impl_Target__impl_GoodPolicy_1] h_slices_ContainsFunc_impl_Target_impl_Target__impl_GoodPolicy_1 Tryz.f16 [(.vw, (.lst false (.pair .str (.pair .str (.pair (.int .i64) (.pair (.int .i64) .unit)))))), (.vw, (.fn 17 .unit))] true .bool).getD .bot
noncomputable def e_slices_ContainsFunc_impl_Target_impl_Target__impl_GoodPolicy_1 : Ent := ⟨16, [(.vw, (.lst false (.pair .str (.pair .str (.pair (.int .i64) (.pair (.int .i64) .unit)))))), (.vw, (.fn 17 .unit))], true, .bool, runPE [e_slices_IndexFunc_impl_Target_impl_Target__impl_GoodPolicy_1] p_slices_ContainsFunc_impl_Target_impl_Target__impl_GoodPolicy_1⟩
theorem ok_slices_ContainsFunc_impl_Target_impl_Target__impl_GoodPolicy_1 : e_slices_ContainsFunc_impl_Target_impl_Target__impl_GoodPolicy_1.Ok Tryz.prog := Ent.ok_of (pe := p_slices_ContainsFunc_impl_Target_impl_Target__impl_GoodPolicy_1) (fn := Tryz.f16) (hs := h_slices_ContainsFunc_impl_Target_impl_Target__impl_GoodPolicy_1) envC (ok_cons ok_slices_IndexFunc_impl_Target_impl_Target__impl_GoodPolicy_1 ok_nil) Tryz.func16 (by decide +kernel) (some_getD (d := PE.bot) (by kernel_rfl)) rfl

/-- loop.example/g00300/impl.GoodPolicy -/
def h_impl_GoodPolicy : List (Nat × Hint) := [(3, .join [(0, ⟨[], [(2, 0, .bool)]⟩)])]
noncomputable def p_impl_GoodPolicy : PE := (comp tysC [e_impl_GoodName, e_impl_within, e_slices_ContainsFunc_impl_Target_impl_Target__impl_GoodPolicy_1] h_impl_GoodPolicy Tryz.f7 [(.vw, (.pair .str (.pair (.lst false (.pair .str (.pair .str (.pair (.int .i64) (.pair (.int .i64) .unit))))) .unit)))] true .bool).getD .bot
noncomputable def e_impl_GoodPolicy : Ent := ⟨7, [(.vw, (.pair .str (.pair (.lst false (.pair .str (.pair .str (.pair (.int .i64) (.pair (.int .i64) .unit))))) .unit)))], true, .bool, runPE [e_impl_GoodName, e_impl_within, e_slices_ContainsFunc_impl_Target_impl_Target__impl_GoodPolicy_1] p_impl_GoodPolicy⟩
theorem ok_impl_GoodPolicy : e_impl_GoodPolicy.Ok Tryz.prog := Ent.ok_of (pe := p_impl_GoodPolicy) (fn := Tryz.f7) (hs := h_impl_GoodPolicy) envC (ok_cons ok_impl_GoodName (ok_cons ok_impl_within (ok_cons ok_slices_ContainsFunc_impl_Target_impl_Target__impl_GoodPolicy_1 ok_nil))) Tryz.func7 (by decide +kernel) (some_getD (d := PE.bot) (by kernel_rfl)) rfl

/-- loop.example/g00300/laws.eqTarget -/
def h_laws_eqTarget : List (Nat × Hint) := []
noncomputable def p_laws_eqTarget : PE := (comp tysC [] h_laws_eqTarget Tryz.f41 [(.vw, (.pair .str (.pair .str (.pair (.int .i64) (.pair (.int .i64) .unit))))), (.vw, (.pair .str (.pair .str (.pair (.int .i64) (.pair (.int .i64) .unit)))))] true .bool).getD .bot
noncomputable def e_laws_eqTarget : Ent := ⟨41, [(.vw, (.pair .str (.pair .str (.pair (.int .i64) (.pair (.int .i64) .unit))))), (.vw, (.pair .str (.pair .str (.pair (.int .i64) (.pair (.int .i64) .unit)))))], true, .bool, runPE [] p_laws_eqTarget⟩
theorem ok_laws_eqTarget : e_laws_eqTarget.Ok Tryz.prog := Ent.ok_of (pe := p_laws_eqTarget) (fn := Tryz.f41) (hs := h_laws_eqTarget) envC ok_nil Tryz.func41 (by decide +kernel) (some_getD (d := PE.bot) (by kernel_rfl)) rfl

/-- loop.example/g00300/laws.eqTargetS -/
def h_laws_eqTargetS : List (Nat × Hint) := [(58, .loop ⟨[0, 1], [(5, 0, (.int .i64))]⟩ [(1, ⟨[4], []⟩), (2, ⟨[], []⟩)])]
noncomputable def p_laws_eqTargetS : PE := (comp tysC [e_laws_eqTarget] h_laws_eqTargetS Tryz.f19 [(.vw, (.lst false (.pair .str (.pair .str (.pair (.int .i64) (.pair (.int .i64) .unit)))))), (.vw, (.lst false (.pair .str (.pair .str (.pair (.int .i64) (.pair (.int .i64) .unit))))))] true .bool).getD .bot
noncomputable def e_laws_eqTargetS : Ent := ⟨19, [(.vw, (.lst false (.pair .str (.pair .str (.pair (.int .i64) (.pair (.int .i64) .unit)))))), (.vw, (.lst false (.pair .str (.pair .str (.pair (.int .i64) (.pair (.int .i64) .unit))))))], true, .bool, runPE [e_laws_eqTarget] p_laws_eqTargetS⟩
theorem ok_laws_eqTargetS : e_laws_eqTargetS.Ok Tryz.prog := Ent.ok_of (pe := p_laws_eqTargetS) (fn := Tryz.f19) (hs := h_laws_eqTargetS) envC (ok_cons ok_laws_eqTarget ok_nil) Tryz.func19 (by decide +kernel) (some_getD (d := PE.bot) (by kernel_rfl)) rfl

/-- loop.example/g00300/laws.eqPolicy -/
def h_laws_eqPolicy : List (Nat × Hint) := []
noncomputable def p_laws_eqPolicy : PE := (comp tysC [e_laws_eqTargetS] h_laws_eqPolicy Tryz.f8 [(.vw, (.pair .str (.pair (.lst false (.pair .str (.pair .str (.pair (.int .i64) (.pair (.int .i64) .unit))))) .unit))), (.vw, (.pair .str (.pair (.lst false (.pair .str (.pair .str (.pair (.int .i64) (.pair (.int .i64) .unit))))) .unit)))] true .bool).getD .bot
noncomputable def e_laws_eqPolicy : Ent := ⟨8, [(.vw, (.pair .str (.pair (.lst false (.pair .str (.pair .str (.pair (.int .i64) (.pair (.int .i64) .unit))))) .unit))), (.vw, (.pair .str (.pair (.lst false (.pair .str (.pair .str (.pair (.int .i64) (.pair (.int .i64) .unit))))) .unit)))], true, .bool, runPE [e_laws_eqTargetS] p_laws_eqPolicy⟩
theorem ok_laws_eqPolicy : e_laws_eqPolicy.Ok Tryz.prog := Ent.ok_of (pe := p_laws_eqPolicy) (fn := Tryz.f8) (hs := h_laws_eqPolicy) envC (ok_cons ok_laws_eqTargetS ok_nil) Tryz.func8 (by decide +kernel) (some_getD (d := PE.bot) (by kernel_rfl)) rfl

/-- loop.example/g00300/laws.FnExactGoodPolicy -/
def h_laws_FnExactGoodPolicy : List (Nat × Hint) := []
noncomputable def p_laws_FnExactGoodPolicy : PE := (comp tysC [e_laws_szPolicy, e_laws_toPolicy, e_spec_GoodPolicy, e_impl_GoodPolicy, e_laws_eqPolicy] h_laws_FnExactGoodPolicy Tryz.f3 [(.vw, (.pair .str (.pair (.lst false (.pair .str (.pair .str (.pair (.int .i64) (.pair (.int .i64) .unit))))) .unit)))] true .bool).getD .bot
noncomputable def e_laws_FnExactGoodPolicy : Ent := ⟨3, [(.vw, (.pair .str (.pair (.lst false (.pair .str (.pair .str (.pair (.int .i64) (.pair (.int .i64) .unit))))) .unit)))], true, .bool, runPE [e_laws_szPolicy, e_laws_toPolicy, e_spec_GoodPolicy, e_impl_GoodPolicy, e_laws_eqPolicy] p_laws_FnExactGoodPolicy⟩
theorem ok_laws_FnExactGoodPolicy : e_laws_FnExactGoodPolicy.Ok Tryz.prog := Ent.ok_of (pe := p_laws_FnExactGoodPolicy) (fn := Tryz.f3) (hs := h_laws_FnExactGoodPolicy) envC (ok_cons ok_laws_szPolicy (ok_cons ok_laws_toPolicy (ok_cons ok_spec_GoodPolicy (ok_cons ok_impl_GoodPolicy (ok_cons ok_laws_eqPolicy ok_nil))))) Tryz.func3 (by decide +kernel) (some_getD (d := PE.bot) (by kernel_rfl)) rfl
end Go.Proofs.YtbanjbafckgghaaGreatDoor
