/- The functions that the law reaches, each as a program of expressions. -/
import Derived.Test.YtclddfdojnfpeaaGreatDoorLb1
import Derived.Test.YtclddfdojnfpeaaGreatDoorProg
import Derived.KernelRfl
import Derived.Test.YtclddfdojnfpeaaGreatDoorLays
set_option linter.unusedSectionVars false
set_option linter.unusedVariables false
set_option linter.unusedSimpArgs false
namespace Go.Proofs.YtclddfdojnfpeaaGreatDoor
open Go Go.Own
set_option maxRecDepth 100000
/-- what is known of package variables: internal/bytealg.MaxLen holds a number, strconv.ErrSyntax and strconv.ErrRange an error or none, internal/strconv.uint64pow10 the powers of ten -/
instance glbI : Glb := Glb.at [(1, isInt .i64), (2, isErr), (3, isErr), (0, isArr (Lib.pow10Tab.map fun z => Value.int .u64 z).toArray)]
theorem glbMaxLen : ∀ h V, Glb.ok h V → ∃ m arr ty fz, h[Tryz.l146_ren.g 1]? = some (.cells arr ty fz) ∧ arr[0]? = some (.int .i64 m) :=
  fun _ _ h => isInt_get (h (1, isInt .i64) (by simp)).2
theorem glbSyn : ∀ h V, Glb.ok h V → ∃ ev arr ty fz, h[Tryz.l172_ren.g 15]? = some (.cells arr ty fz) ∧ arr[0]? = some ev ∧ (ev = .nilIface ∨ ∃ te pe, ev = .iface te pe) :=
  fun _ _ h => isErr_get (h (2, isErr) (by simp)).2
theorem glbRng : ∀ h V, Glb.ok h V → ∃ ev arr ty fz, h[Tryz.l172_ren.g 16]? = some (.cells arr ty fz) ∧ arr[0]? = some ev ∧ (ev = .nilIface ∨ ∃ te pe, ev = .iface te pe) :=
  fun _ _ h => isErr_get (h (3, isErr) (by simp)).2
theorem glbPow : ∀ h V, Glb.ok h V → ∃ ty fz, h[0]? = some (.cells (Lib.pow10Tab.map fun z => Value.int .u64 z).toArray ty fz) :=
  fun _ _ h => isArr_get (h (0, isArr (Lib.pow10Tab.map fun z => Value.int .u64 z).toArray) (by simp)).2
def tysC : List (TypeId × T × Nat) := [(3, (.int .i64), 0), (4, .bool, 0), (5, (.int .u8), 0), (9, .str, 0), (22, (.lst true (.pair (.int .i64) (.pair (.pair .str (.pair (.int .i64) (.pair (.int .i64) (.pair .str .unit)))) .unit))), 56), (24, (.pair (.int .i64) (.pair (.int .i64) (.pair (.lst true (.pair (.int .i64) (.pair (.pair .str (.pair (.int .i64) (.pair (.int .i64) (.pair .str .unit)))) .unit))) .unit))), 0), (28, (.lst true (.pair (.int .i64) (.pair (.pair .str (.pair (.int .i64) (.pair (.int .i64) (.pair .str .unit)))) .unit))), 56), (30, (.pair (.int .i64) (.pair (.int .i64) (.pair (.lst true (.pair (.int .i64) (.pair (.pair .str (.pair (.int .i64) (.pair (.int .i64) (.pair .str .unit)))) .unit))) .unit))), 0), (42, (.pair .str (.pair (.int .i64) (.pair (.int .i64) (.pair .str .unit)))), 0), (44, (.pair (.int .i64) (.pair (.pair .str (.pair (.int .i64) (.pair (.int .i64) (.pair .str .unit)))) .unit)), 0), (46, (.pair .str (.pair (.int .i64) (.pair (.int .i64) (.pair .str .unit)))), 0), (48, (.pair (.int .i64) (.pair (.pair .str (.pair (.int .i64) (.pair (.int .i64) (.pair .str .unit)))) .unit)), 0), (59, (.lst true (.int .u8)), 1), (64, (.lst true .str), 16), (80, (.int .u64), 0), (85, .err, 0)]
theorem envC : ∀ sig n fx fr, EnvOk Tryz.prog ⟨tyOf tysC, ebOf tysC, sig, n, fx, fr⟩ := by
  refine EnvOk.ofL (fun sig n fx fr t ht => ?_) (by kernel_rfl)
  simp only [tysC, List.map_cons, List.map_nil, List.mem_cons] at ht
  rcases ht with rfl | ht
  · exact ⟨Tryz.underlying3, rfl, by kernel_rfl, by kernel_rfl⟩
  rcases ht with rfl | ht
  · exact ⟨Tryz.underlying4, rfl, by kernel_rfl, by kernel_rfl⟩
  rcases ht with rfl | ht
  · exact ⟨Tryz.underlying5, rfl, by kernel_rfl, by kernel_rfl⟩
  rcases ht with rfl | ht
  · exact ⟨Tryz.underlying9, rfl, by kernel_rfl, by kernel_rfl⟩
  rcases ht with rfl | ht
  · exact ⟨⟨rfl, _, Tryz.underlying22, rfl, rfl, by kernel_rfl⟩, rfl, by kernel_rfl, by kernel_rfl⟩
  rcases ht with rfl | ht
  · exact ⟨⟨_, Tryz.underlying24, rfl, rfl, rfl, rfl, rfl, rfl, rfl, rfl, rfl, trivial⟩, rfl, by kernel_rfl, by kernel_rfl⟩
  rcases ht with rfl | ht
  · exact ⟨⟨rfl, _, Tryz.underlying28, rfl, rfl, by kernel_rfl⟩, rfl, by kernel_rfl, by kernel_rfl⟩
  rcases ht with rfl | ht
  · exact ⟨⟨_, Tryz.underlying30, rfl, rfl, rfl, rfl, rfl, rfl, rfl, rfl, rfl, trivial⟩, rfl, by kernel_rfl, by kernel_rfl⟩
  rcases ht with rfl | ht
  · exact ⟨⟨_, Tryz.underlying42, rfl, rfl, rfl, rfl, rfl, rfl, rfl, rfl, rfl, rfl, rfl, rfl, trivial⟩, rfl, by kernel_rfl, by kernel_rfl⟩
  rcases ht with rfl | ht
  · exact ⟨⟨_, Tryz.underlying44, rfl, rfl, rfl, rfl, rfl, rfl, trivial⟩, rfl, by kernel_rfl, by kernel_rfl⟩
  rcases ht with rfl | ht
  · exact ⟨⟨_, Tryz.underlying46, rfl, rfl, rfl, rfl, rfl, rfl, rfl, rfl, rfl, rfl, rfl, rfl, trivial⟩, rfl, by kernel_rfl, by kernel_rfl⟩
  rcases ht with rfl | ht
  · exact ⟨⟨_, Tryz.underlying48, rfl, rfl, rfl, rfl, rfl, rfl, trivial⟩, rfl, by kernel_rfl, by kernel_rfl⟩
  rcases ht with rfl | ht
  · exact ⟨⟨rfl, _, Tryz.underlying59, rfl, rfl, by kernel_rfl⟩, rfl, by kernel_rfl, by kernel_rfl⟩
  rcases ht with rfl | ht
  · exact ⟨⟨rfl, _, Tryz.underlying64, rfl, rfl, by kernel_rfl⟩, rfl, by kernel_rfl, by kernel_rfl⟩
  rcases ht with rfl | ht
  · exact ⟨Tryz.underlying80, rfl, by kernel_rfl, by kernel_rfl⟩
  rcases ht with rfl | ht
  · exact ⟨⟨_, Tryz.underlying85⟩, rfl, by kernel_rfl, by kernel_rfl⟩
  cases ht

/-- loop.example/g00300/laws.szRecord -/
def h_laws_szRecord : List (Nat × Hint) := []
noncomputable def p_laws_szRecord : PE := (comp tysC [] h_laws_szRecord Tryz.f31 [(.vw, (.pair .str (.pair (.int .i64) (.pair (.int .i64) (.pair .str .unit))))), (.vw, (.int .i64))] true (.int .i64)).getD .bot
noncomputable def e_laws_szRecord : Ent := ⟨31, [(.vw, (.pair .str (.pair (.int .i64) (.pair (.int .i64) (.pair .str .unit))))), (.vw, (.int .i64))], true, (.int .i64), runPE [] p_laws_szRecord⟩
theorem ok_laws_szRecord : e_laws_szRecord.Ok Tryz.prog := Ent.ok_of (pe := p_laws_szRecord) (fn := Tryz.f31) (hs := h_laws_szRecord) envC ok_nil Tryz.func31 (by decide +kernel) (some_getD (d := PE.bot) (by kernel_rfl)) rfl

/-- loop.example/g00300/laws.szChange -/
def h_laws_szChange : List (Nat × Hint) := []
noncomputable def p_laws_szChange : PE := (comp tysC [e_laws_szRecord] h_laws_szChange Tryz.f18 [(.vw, (.pair (.int .i64) (.pair (.pair .str (.pair (.int .i64) (.pair (.int .i64) (.pair .str .unit)))) .unit))), (.vw, (.int .i64))] true (.int .i64)).getD .bot
noncomputable def e_laws_szChange : Ent := ⟨18, [(.vw, (.pair (.int .i64) (.pair (.pair .str (.pair (.int .i64) (.pair (.int .i64) (.pair .str .unit)))) .unit))), (.vw, (.int .i64))], true, (.int .i64), runPE [e_laws_szRecord] p_laws_szChange⟩
theorem ok_laws_szChange : e_laws_szChange.Ok Tryz.prog := Ent.ok_of (pe := p_laws_szChange) (fn := Tryz.f18) (hs := h_laws_szChange) envC (ok_cons ok_laws_szRecord ok_nil) Tryz.func18 (by decide +kernel) (some_getD (d := PE.bot) (by kernel_rfl)) rfl

/-- loop.example/g00300/laws.szChangeS -/
def h_laws_szChangeS : List (Nat × Hint) := [(122, .loop ⟨[0], [(1, 0, (.int .i64)), (5, 0, (.int .i64))]⟩ [(1, ⟨[], [(4, 0, (.int .i64))]⟩), (2, ⟨[], [(1, 0, (.int .i64))]⟩)])]
noncomputable def p_laws_szChangeS : PE := (comp tysC [e_laws_szChange] h_laws_szChangeS Tryz.f9 [(.vw, (.lst false (.pair (.int .i64) (.pair (.pair .str (.pair (.int .i64) (.pair (.int .i64) (.pair .str .unit)))) .unit)))), (.vw, (.int .i64))] true (.int .i64)).getD .bot
noncomputable def e_laws_szChangeS : Ent := ⟨9, [(.vw, (.lst false (.pair (.int .i64) (.pair (.pair .str (.pair (.int .i64) (.pair (.int .i64) (.pair .str .unit)))) .unit)))), (.vw, (.int .i64))], true, (.int .i64), runPE [e_laws_szChange] p_laws_szChangeS⟩
theorem ok_laws_szChangeS : e_laws_szChangeS.Ok Tryz.prog := Ent.ok_of (pe := p_laws_szChangeS) (fn := Tryz.f9) (hs := h_laws_szChangeS) envC (ok_cons ok_laws_szChange ok_nil) Tryz.func9 (by decide +kernel) (some_getD (d := PE.bot) (by kernel_rfl)) rfl

/-- loop.example/g00300/laws.szAsked -/
def h_laws_szAsked : List (Nat × Hint) := []
noncomputable def p_laws_szAsked : PE := (comp tysC [e_laws_szChangeS] h_laws_szAsked Tryz.f4 [(.vw, (.pair (.int .i64) (.pair (.int .i64) (.pair (.lst false (.pair (.int .i64) (.pair (.pair .str (.pair (.int .i64) (.pair (.int .i64) (.pair .str .unit)))) .unit))) .unit)))), (.vw, (.int .i64))] true (.int .i64)).getD .bot
noncomputable def e_laws_szAsked : Ent := ⟨4, [(.vw, (.pair (.int .i64) (.pair (.int .i64) (.pair (.lst false (.pair (.int .i64) (.pair (.pair .str (.pair (.int .i64) (.pair (.int .i64) (.pair .str .unit)))) .unit))) .unit)))), (.vw, (.int .i64))], true, (.int .i64), runPE [e_laws_szChangeS] p_laws_szAsked⟩
theorem ok_laws_szAsked : e_laws_szAsked.Ok Tryz.prog := Ent.ok_of (pe := p_laws_szAsked) (fn := Tryz.f4) (hs := h_laws_szAsked) envC (ok_cons ok_laws_szChangeS ok_nil) Tryz.func4 (by decide +kernel) (some_getD (d := PE.bot) (by kernel_rfl)) rfl

/-- loop.example/g00300/laws.toRecord -/
def h_laws_toRecord : List (Nat × Hint) := []
noncomputable def p_laws_toRecord : PE := (comp tysC [] h_laws_toRecord Tryz.f34 [(.vw, (.pair .str (.pair (.int .i64) (.pair (.int .i64) (.pair .str .unit)))))] true (.pair .str (.pair (.int .i64) (.pair (.int .i64) (.pair .str .unit))))).getD .bot
noncomputable def e_laws_toRecord : Ent := ⟨34, [(.vw, (.pair .str (.pair (.int .i64) (.pair (.int .i64) (.pair .str .unit)))))], true, (.pair .str (.pair (.int .i64) (.pair (.int .i64) (.pair .str .unit)))), runPE [] p_laws_toRecord⟩
theorem ok_laws_toRecord : e_laws_toRecord.Ok Tryz.prog := Ent.ok_of (pe := p_laws_toRecord) (fn := Tryz.f34) (hs := h_laws_toRecord) envC ok_nil Tryz.func34 (by decide +kernel) (some_getD (d := PE.bot) (by kernel_rfl)) rfl

/-- loop.example/g00300/laws.toChange -/
def h_laws_toChange : List (Nat × Hint) := []
noncomputable def p_laws_toChange : PE := (comp tysC [e_laws_toRecord] h_laws_toChange Tryz.f23 [(.vw, (.pair (.int .i64) (.pair (.pair .str (.pair (.int .i64) (.pair (.int .i64) (.pair .str .unit)))) .unit)))] true (.pair (.int .i64) (.pair (.pair .str (.pair (.int .i64) (.pair (.int .i64) (.pair .str .unit)))) .unit))).getD .bot
noncomputable def e_laws_toChange : Ent := ⟨23, [(.vw, (.pair (.int .i64) (.pair (.pair .str (.pair (.int .i64) (.pair (.int .i64) (.pair .str .unit)))) .unit)))], true, (.pair (.int .i64) (.pair (.pair .str (.pair (.int .i64) (.pair (.int .i64) (.pair .str .unit)))) .unit)), runPE [e_laws_toRecord] p_laws_toChange⟩
theorem ok_laws_toChange : e_laws_toChange.Ok Tryz.prog := Ent.ok_of (pe := p_laws_toChange) (fn := Tryz.f23) (hs := h_laws_toChange) envC (ok_cons ok_laws_toRecord ok_nil) Tryz.func23 (by decide +kernel) (some_getD (d := PE.bot) (by kernel_rfl)) rfl

/-- loop.example/g00300/laws.toChangeS -/
def h_laws_toChangeS : List (Nat × Hint) := [(58, .loop ⟨[0], [(3, 0, (.lst true (.pair (.int .i64) (.pair (.pair .str (.pair (.int .i64) (.pair (.int .i64) (.pair .str .unit)))) .unit)))), (4, 0, (.int .i64))]⟩ [(2, ⟨[], [(3, 0, (.lst true (.pair (.int .i64) (.pair (.pair .str (.pair (.int .i64) (.pair (.int .i64) (.pair .str .unit)))) .unit))))]⟩)]), (0, .frz [2])]
noncomputable def p_laws_toChangeS : PE := (comp tysC [e_laws_toChange] h_laws_toChangeS Tryz.f13 [(.vw, (.lst false (.pair (.int .i64) (.pair (.pair .str (.pair (.int .i64) (.pair (.int .i64) (.pair .str .unit)))) .unit))))] true (.lst true (.pair (.int .i64) (.pair (.pair .str (.pair (.int .i64) (.pair (.int .i64) (.pair .str .unit)))) .unit)))).getD .bot
noncomputable def e_laws_toChangeS : Ent := ⟨13, [(.vw, (.lst false (.pair (.int .i64) (.pair (.pair .str (.pair (.int .i64) (.pair (.int .i64) (.pair .str .unit)))) .unit))))], true, (.lst true (.pair (.int .i64) (.pair (.pair .str (.pair (.int .i64) (.pair (.int .i64) (.pair .str .unit)))) .unit))), runPE [e_laws_toChange] p_laws_toChangeS⟩
theorem ok_laws_toChangeS : e_laws_toChangeS.Ok Tryz.prog := Ent.ok_of (pe := p_laws_toChangeS) (fn := Tryz.f13) (hs := h_laws_toChangeS) envC (ok_cons ok_laws_toChange ok_nil) Tryz.func13 (by decide +kernel) (some_getD (d := PE.bot) (by kernel_rfl)) rfl

/-- loop.example/g00300/laws.toAsked -/
def h_laws_toAsked : List (Nat × Hint) := []
noncomputable def p_laws_toAsked : PE := (comp tysC [e_laws_toChangeS] h_laws_toAsked Tryz.f6 [(.vw, (.pair (.int .i64) (.pair (.int .i64) (.pair (.lst false (.pair (.int .i64) (.pair (.pair .str (.pair (.int .i64) (.pair (.int .i64) (.pair .str .unit)))) .unit))) .unit))))] true (.pair (.int .i64) (.pair (.int .i64) (.pair (.lst true (.pair (.int .i64) (.pair (.pair .str (.pair (.int .i64) (.pair (.int .i64) (.pair .str .unit)))) .unit))) .unit)))).getD .bot
noncomputable def e_laws_toAsked : Ent := ⟨6, [(.vw, (.pair (.int .i64) (.pair (.int .i64) (.pair (.lst false (.pair (.int .i64) (.pair (.pair .str (.pair (.int .i64) (.pair (.int .i64) (.pair .str .unit)))) .unit))) .unit))))], true, (.pair (.int .i64) (.pair (.int .i64) (.pair (.lst true (.pair (.int .i64) (.pair (.pair .str (.pair (.int .i64) (.pair (.int .i64) (.pair .str .unit)))) .unit))) .unit))), runPE [e_laws_toChangeS] p_laws_toAsked⟩
theorem ok_laws_toAsked : e_laws_toAsked.Ok Tryz.prog := Ent.ok_of (pe := p_laws_toAsked) (fn := Tryz.f6) (hs := h_laws_toAsked) envC (ok_cons ok_laws_toChangeS ok_nil) Tryz.func6 (by decide +kernel) (some_getD (d := PE.bot) (by kernel_rfl)) rfl

/-- loop.example/g00300/spec.l1In -/
def h_spec_l1In : List (Nat × Hint) := [(3, .join [(0, ⟨[], [(6, 0, .bool)]⟩)])]
noncomputable def p_spec_l1In : PE := (comp tysC [] h_spec_l1In Tryz.f19 [(.vw, (.int .i64)), (.vw, (.int .i64)), (.vw, (.int .i64))] true .bool).getD .bot
noncomputable def e_spec_l1In : Ent := ⟨19, [(.vw, (.int .i64)), (.vw, (.int .i64)), (.vw, (.int .i64))], true, .bool, runPE [] p_spec_l1In⟩
theorem ok_spec_l1In : e_spec_l1In.Ok Tryz.prog := Ent.ok_of (pe := p_spec_l1In) (fn := Tryz.f19) (hs := h_spec_l1In) envC ok_nil Tryz.func19 (by decide +kernel) (some_getD (d := PE.bot) (by kernel_rfl)) rfl

/-- loop.example/g00300/spec.l16Who -/
def h_spec_l16Who : List (Nat × Hint) := [(3, .join [(0, ⟨[], [(4, 0, .bool)]⟩)])]
noncomputable def p_spec_l16Who : PE := (comp tysC [e_spec_l1In] h_spec_l16Who Tryz.f10 [(.vw, (.int .i64)), (.vw, (.int .i64))] true .bool).getD .bot
noncomputable def e_spec_l16Who : Ent := ⟨10, [(.vw, (.int .i64)), (.vw, (.int .i64))], true, .bool, runPE [e_spec_l1In] p_spec_l16Who⟩
theorem ok_spec_l16Who : e_spec_l16Who.Ok Tryz.prog := Ent.ok_of (pe := p_spec_l16Who) (fn := Tryz.f10) (hs := h_spec_l16Who) envC (ok_cons ok_spec_l1In ok_nil) Tryz.func10 (by decide +kernel) (some_getD (d := PE.bot) (by kernel_rfl)) rfl

/-- loop.example/g00300/spec.l1Split -/
def h_spec_l1Split : List (Nat × Hint) := [(122, .loop ⟨[0, 1], [(5, 0, (.lst true .str)), (6, 0, (.int .i64)), (7, 0, (.int .i64))]⟩ [(2, ⟨[0], [(5, 0, (.lst true .str)), (6, 0, (.int .i64))]⟩)]), (489, .join [(0, ⟨[0, 1, 7], [(5, 0, (.lst true .str)), (6, 0, (.int .i64))]⟩)])]
noncomputable def p_spec_l1Split : PE := (comp tysC [] h_spec_l1Split Tryz.f41 [(.vw, .str), (.vw, (.int .u8))] true (.lst true .str)).getD .bot
noncomputable def e_spec_l1Split : Ent := ⟨41, [(.vw, .str), (.vw, (.int .u8))], true, (.lst true .str), runPE [] p_spec_l1Split⟩
theorem ok_spec_l1Split : e_spec_l1Split.Ok Tryz.prog := Ent.ok_of (pe := p_spec_l1Split) (fn := Tryz.f41) (hs := h_spec_l1Split) envC ok_nil Tryz.func41 (by decide +kernel) (some_getD (d := PE.bot) (by kernel_rfl)) rfl

/-- loop.example/g00300/spec.l1Int -/
def h_spec_l1Int : List (Nat × Hint) := [(122, .loop ⟨[0], [(3, 0, (.int .i64)), (4, 0, (.int .i64))]⟩ [(1, ⟨[], [(2, 0, (.int .i64))]⟩), (2, ⟨[], [(3, 0, (.int .i64))]⟩)]), (3912, .join [(0, ⟨[0, 3, 4], [(34, 0, .bool)]⟩)]), (6, .join [(0, ⟨[0], [(18, 0, .bool)]⟩)])]
noncomputable def p_spec_l1Int : PE := (comp tysC [e_spec_l1In] h_spec_l1Int Tryz.f42 [(.vw, .str)] true (.int .i64)).getD .bot
noncomputable def e_spec_l1Int : Ent := ⟨42, [(.vw, .str)], true, (.int .i64), runPE [e_spec_l1In] p_spec_l1Int⟩
theorem ok_spec_l1Int : e_spec_l1Int.Ok Tryz.prog := Ent.ok_of (pe := p_spec_l1Int) (fn := Tryz.f42) (hs := h_spec_l1Int) envC (ok_cons ok_spec_l1In ok_nil) Tryz.func42 (by decide +kernel) (some_getD (d := PE.bot) (by kernel_rfl)) rfl

/-- loop.example/g00300/spec.l3Number -/
def h_spec_l3Number : List (Nat × Hint) := [(58, .loop ⟨[], [(0, 0, (.int .i64)), (5, 0, (.lst true (.int .u8))), (6, 0, (.int .i64))]⟩ [(2, ⟨[], [(5, 0, (.lst true (.int .u8)))]⟩)])]
noncomputable def p_spec_l3Number : PE := (comp tysC [] h_spec_l3Number Tryz.f43 [(.vw, (.int .i64)), (.vw, (.int .i64))] true .str).getD .bot
noncomputable def e_spec_l3Number : Ent := ⟨43, [(.vw, (.int .i64)), (.vw, (.int .i64))], true, .str, runPE [] p_spec_l3Number⟩
theorem ok_spec_l3Number : e_spec_l3Number.Ok Tryz.prog := Ent.ok_of (pe := p_spec_l3Number) (fn := Tryz.f43) (hs := h_spec_l3Number) envC ok_nil Tryz.func43 (by decide +kernel) (some_getD (d := PE.bot) (by kernel_rfl)) rfl

/-- loop.example/g00300/spec.l1Label -/
def h_spec_l1Label : List (Nat × Hint) := [(58, .loop ⟨[0], [(3, 0, (.int .i64))]⟩ [(1, ⟨[2], []⟩), (2, ⟨[0], []⟩)]), (1865, .join [(0, ⟨[0, 3], [(38, 0, .bool)]⟩)])]
noncomputable def p_spec_l1Label : PE := (comp tysC [e_spec_l1In] h_spec_l1Label Tryz.f60 [(.vw, .str)] true .bool).getD .bot
noncomputable def e_spec_l1Label : Ent := ⟨60, [(.vw, .str)], true, .bool, runPE [e_spec_l1In] p_spec_l1Label⟩
theorem ok_spec_l1Label : e_spec_l1Label.Ok Tryz.prog := Ent.ok_of (pe := p_spec_l1Label) (fn := Tryz.f60) (hs := h_spec_l1Label) envC (ok_cons ok_spec_l1In ok_nil) Tryz.func60 (by decide +kernel) (some_getD (d := PE.bot) (by kernel_rfl)) rfl

/-- loop.example/g00300/spec.l1Labels -/
def h_spec_l1Labels : List (Nat × Hint) := [(31, .join [(0, ⟨[], [(2, 0, (.lst true .str)), (3, 0, .bool)]⟩)]), (122, .loop ⟨[0, 4, 11, 12], [(13, 0, (.int .i64))]⟩ [(1, ⟨[2, 3], []⟩), (2, ⟨[0, 4], []⟩)])]
noncomputable def p_spec_l1Labels : PE := (comp tysC [e_spec_l1Split, e_spec_l1Label] h_spec_l1Labels Tryz.f46 [(.vw, .str)] false (.pair (.lst true .str) (.pair .bool .unit))).getD .bot
noncomputable def e_spec_l1Labels : Ent := ⟨46, [(.vw, .str)], false, (.pair (.lst true .str) (.pair .bool .unit)), runPE [e_spec_l1Split, e_spec_l1Label] p_spec_l1Labels⟩
theorem ok_spec_l1Labels : e_spec_l1Labels.Ok Tryz.prog := Ent.ok_of (pe := p_spec_l1Labels) (fn := Tryz.f46) (hs := h_spec_l1Labels) envC (ok_cons ok_spec_l1Split (ok_cons ok_spec_l1Label ok_nil)) Tryz.func46 (by decide +kernel) (some_getD (d := PE.bot) (by kernel_rfl)) rfl

/-- loop.example/g00300/spec.l3Target -/
def h_spec_l3Target : List (Nat × Hint) := [(15, .join [(0, ⟨[], [(2, 0, .bool)]⟩)]), (58, .loop ⟨[0, 3, 12, 13], [(4, 0, .bool), (14, 0, (.int .i64))]⟩ [(2, ⟨[0], [(4, 0, .bool)]⟩)]), (467, .join [(0, ⟨[0, 3, 12, 13, 14], [(4, 0, .bool)]⟩)])]
noncomputable def p_spec_l3Target : PE := (comp tysC [e_spec_l1Labels] h_spec_l3Target Tryz.f44 [(.vw, .str)] true .bool).getD .bot
noncomputable def e_spec_l3Target : Ent := ⟨44, [(.vw, .str)], true, .bool, runPE [e_spec_l1Labels] p_spec_l3Target⟩
theorem ok_spec_l3Target : e_spec_l3Target.Ok Tryz.prog := Ent.ok_of (pe := p_spec_l3Target) (fn := Tryz.f44) (hs := h_spec_l3Target) envC (ok_cons ok_spec_l1Labels ok_nil) Tryz.func44 (by decide +kernel) (some_getD (d := PE.bot) (by kernel_rfl)) rfl

/-- loop.example/g00300/spec.l2Bytes -/
def h_spec_l2Bytes : List (Nat × Hint) := [(122, .loop ⟨[3, 13, 14], [(5, 0, .str), (15, 0, (.int .i64))]⟩ [(2, ⟨[], [(5, 0, .str)]⟩)])]
noncomputable def p_spec_l2Bytes : PE := (comp tysC [e_spec_l1Labels] h_spec_l2Bytes Tryz.f45 [(.vw, .str)] true .str).getD .bot
noncomputable def e_spec_l2Bytes : Ent := ⟨45, [(.vw, .str)], true, .str, runPE [e_spec_l1Labels] p_spec_l2Bytes⟩
theorem ok_spec_l2Bytes : e_spec_l2Bytes.Ok Tryz.prog := Ent.ok_of (pe := p_spec_l2Bytes) (fn := Tryz.f45) (hs := h_spec_l2Bytes) envC (ok_cons ok_spec_l1Labels ok_nil) Tryz.func45 (by decide +kernel) (some_getD (d := PE.bot) (by kernel_rfl)) rfl

/-- loop.example/g00300/spec.l3Bytes -/
def h_spec_l3Bytes : List (Nat × Hint) := [(221170, .loop ⟨[1], [(13, 0, (.int .i64))]⟩ [(1, ⟨[], [(4, 0, .str), (5, 0, .bool)]⟩), (5, ⟨[1], []⟩)]), (3538724, .join [(0, ⟨[1, 13], [(104, 0, .bool)]⟩)]), (27642, .join [(0, ⟨[12], [(76, 0, .bool)]⟩)]), (107, .join [(0, ⟨[1, 14], [(39, 0, .bool)]⟩)]), (3418, .loop ⟨[7, 19, 20], [(6, 0, .str), (21, 0, (.int .i64))]⟩ [(1, ⟨[4, 5], []⟩), (3, ⟨[7], [(6, 0, .str)]⟩)])]
noncomputable def p_spec_l3Bytes : PE := (comp tysC [e_spec_l1Split, e_spec_l1Int, e_spec_l1In, e_spec_l3Number, e_spec_l3Target, e_spec_l2Bytes] h_spec_l3Bytes Tryz.f32 [(.vw, (.int .i64)), (.vw, .str)] false (.pair .str (.pair .bool .unit))).getD .bot
noncomputable def e_spec_l3Bytes : Ent := ⟨32, [(.vw, (.int .i64)), (.vw, .str)], false, (.pair .str (.pair .bool .unit)), runPE [e_spec_l1Split, e_spec_l1Int, e_spec_l1In, e_spec_l3Number, e_spec_l3Target, e_spec_l2Bytes] p_spec_l3Bytes⟩
theorem ok_spec_l3Bytes : e_spec_l3Bytes.Ok Tryz.prog := Ent.ok_of (pe := p_spec_l3Bytes) (fn := Tryz.f32) (hs := h_spec_l3Bytes) envC (ok_cons ok_spec_l1Split (ok_cons ok_spec_l1Int (ok_cons ok_spec_l1In (ok_cons ok_spec_l3Number (ok_cons ok_spec_l3Target (ok_cons ok_spec_l2Bytes ok_nil)))))) Tryz.func32 (by decide +kernel) (some_getD (d := PE.bot) (by kernel_rfl)) rfl

/-- loop.example/g00300/spec.GoodName -/
def h_spec_GoodName : List (Nat × Hint) := []
noncomputable def p_spec_GoodName : PE := (comp tysC [e_spec_l1Labels] h_spec_GoodName Tryz.f33 [(.vw, .str)] true .bool).getD .bot
noncomputable def e_spec_GoodName : Ent := ⟨33, [(.vw, .str)], true, .bool, runPE [e_spec_l1Labels] p_spec_GoodName⟩
theorem ok_spec_GoodName : e_spec_GoodName.Ok Tryz.prog := Ent.ok_of (pe := p_spec_GoodName) (fn := Tryz.f33) (hs := h_spec_GoodName) envC (ok_cons ok_spec_l1Labels ok_nil) Tryz.func33 (by decide +kernel) (some_getD (d := PE.bot) (by kernel_rfl)) rfl

/-- loop.example/g00300/spec.GoodRecord -/
def h_spec_GoodRecord : List (Nat × Hint) := [(7, .join [(0, ⟨[], [(2, 0, .bool)]⟩)])]
noncomputable def p_spec_GoodRecord : PE := (comp tysC [e_spec_l3Bytes, e_spec_GoodName, e_spec_l1In] h_spec_GoodRecord Tryz.f20 [(.vw, (.pair .str (.pair (.int .i64) (.pair (.int .i64) (.pair .str .unit)))))] true .bool).getD .bot
noncomputable def e_spec_GoodRecord : Ent := ⟨20, [(.vw, (.pair .str (.pair (.int .i64) (.pair (.int .i64) (.pair .str .unit)))))], true, .bool, runPE [e_spec_l3Bytes, e_spec_GoodName, e_spec_l1In] p_spec_GoodRecord⟩
theorem ok_spec_GoodRecord : e_spec_GoodRecord.Ok Tryz.prog := Ent.ok_of (pe := p_spec_GoodRecord) (fn := Tryz.f20) (hs := h_spec_GoodRecord) envC (ok_cons ok_spec_l3Bytes (ok_cons ok_spec_GoodName (ok_cons ok_spec_l1In ok_nil))) Tryz.func20 (by decide +kernel) (some_getD (d := PE.bot) (by kernel_rfl)) rfl

/-- loop.example/g00300/spec.l6Batch -/
def h_spec_l6Batch : List (Nat × Hint) := [(26, .loop ⟨[0, 5, 6], [(7, 0, (.int .i64))]⟩ [(1, ⟨[2], []⟩), (2, ⟨[0], []⟩)]), (1689, .join [(0, ⟨[0, 5, 6, 7], [(26, 0, .bool)]⟩)])]
noncomputable def p_spec_l6Batch : PE := (comp tysC [e_spec_l1In, e_spec_GoodRecord] h_spec_l6Batch Tryz.f11 [(.vw, (.lst false (.pair (.int .i64) (.pair (.pair .str (.pair (.int .i64) (.pair (.int .i64) (.pair .str .unit)))) .unit))))] true .bool).getD .bot
noncomputable def e_spec_l6Batch : Ent := ⟨11, [(.vw, (.lst false (.pair (.int .i64) (.pair (.pair .str (.pair (.int .i64) (.pair (.int .i64) (.pair .str .unit)))) .unit))))], true, .bool, runPE [e_spec_l1In, e_spec_GoodRecord] p_spec_l6Batch⟩
theorem ok_spec_l6Batch : e_spec_l6Batch.Ok Tryz.prog := Ent.ok_of (pe := p_spec_l6Batch) (fn := Tryz.f11) (hs := h_spec_l6Batch) envC (ok_cons ok_spec_l1In (ok_cons ok_spec_GoodRecord ok_nil)) Tryz.func11 (by decide +kernel) (some_getD (d := PE.bot) (by kernel_rfl)) rfl

/-- loop.example/g00300/spec.l1Num, which calls itself: at most so deep -/
def h_spec_l1Num : List (Nat × Hint) := []
noncomputable def z_spec_l1Num : Ent := ⟨21, [(.vw, (.int .i64))], true, .str, fun _ => none⟩
noncomputable def p_spec_l1Num : PE := (comp tysC [z_spec_l1Num] h_spec_l1Num Tryz.f21 [(.vw, (.int .i64))] true .str).getD .bot
noncomputable def f_rec_spec_l1Num : Nat → List D → Option D
  | 0 => fun _ => none
  | k + 1 => runPE [⟨21, [(.vw, (.int .i64))], true, .str, f_rec_spec_l1Num k⟩] p_spec_l1Num
noncomputable abbrev r_spec_l1Num (k : Nat) : Ent := ⟨21, [(.vw, (.int .i64))], true, .str, f_rec_spec_l1Num k⟩
theorem okr_spec_l1Num : ∀ k, (r_spec_l1Num k).Ok Tryz.prog
  | 0 => ⟨⟨Tryz.f21, Tryz.func21, by decide +kernel, by kernel_rfl⟩, fun _ _ _ h => by cases h⟩
  | k + 1 => Ent.ok_of (pe := p_spec_l1Num) (fn := Tryz.f21) (hs := h_spec_l1Num) envC (ok_cons (okr_spec_l1Num k) ok_nil) Tryz.func21 (by decide +kernel) (by kernel_rfl) rfl
noncomputable def e_spec_l1Num : Ent := r_spec_l1Num 40
theorem ok_spec_l1Num : e_spec_l1Num.Ok Tryz.prog := okr_spec_l1Num 40

/-- loop.example/g00300/spec.l3Text -/
def h_spec_l3Text : List (Nat × Hint) := [(7, .join [(0, ⟨[1], [(3, 0, .str)]⟩)])]
noncomputable def p_spec_l3Text : PE := (comp tysC [e_spec_l1Num] h_spec_l3Text Tryz.f22 [(.vw, (.pair .str (.pair (.int .i64) (.pair (.int .i64) (.pair .str .unit)))))] true .str).getD .bot
noncomputable def e_spec_l3Text : Ent := ⟨22, [(.vw, (.pair .str (.pair (.int .i64) (.pair (.int .i64) (.pair .str .unit)))))], true, .str, runPE [e_spec_l1Num] p_spec_l3Text⟩
theorem ok_spec_l3Text : e_spec_l3Text.Ok Tryz.prog := Ent.ok_of (pe := p_spec_l3Text) (fn := Tryz.f22) (hs := h_spec_l3Text) envC (ok_cons ok_spec_l1Num ok_nil) Tryz.func22 (by decide +kernel) (some_getD (d := PE.bot) (by kernel_rfl)) rfl

/-- loop.example/g00300/spec.l16Text -/
def h_spec_l16Text : List (Nat × Hint) := [(58, .loop ⟨[15, 16], [(3, 0, .str), (17, 0, (.int .i64))]⟩ [(2, ⟨[], [(3, 0, .str)]⟩)])]
noncomputable def p_spec_l16Text : PE := (comp tysC [e_spec_l1Num, e_spec_l3Text] h_spec_l16Text Tryz.f12 [(.vw, (.pair (.int .i64) (.pair (.int .i64) (.pair (.lst false (.pair (.int .i64) (.pair (.pair .str (.pair (.int .i64) (.pair (.int .i64) (.pair .str .unit)))) .unit))) .unit))))] true .str).getD .bot
noncomputable def e_spec_l16Text : Ent := ⟨12, [(.vw, (.pair (.int .i64) (.pair (.int .i64) (.pair (.lst false (.pair (.int .i64) (.pair (.pair .str (.pair (.int .i64) (.pair (.int .i64) (.pair .str .unit)))) .unit))) .unit))))], true, .str, runPE [e_spec_l1Num, e_spec_l3Text] p_spec_l16Text⟩
theorem ok_spec_l16Text : e_spec_l16Text.Ok Tryz.prog := Ent.ok_of (pe := p_spec_l16Text) (fn := Tryz.f12) (hs := h_spec_l16Text) envC (ok_cons ok_spec_l1Num (ok_cons ok_spec_l3Text ok_nil)) Tryz.func12 (by decide +kernel) (some_getD (d := PE.bot) (by kernel_rfl)) rfl

/-- loop.example/g00300/spec.AskedText -/
def h_spec_AskedText : List (Nat × Hint) := [(6, .join [(0, ⟨[1], [(15, 0, .bool)]⟩)])]
noncomputable def p_spec_AskedText : PE := (comp tysC [e_spec_l16Who, e_spec_l6Batch, e_spec_l16Text] h_spec_AskedText Tryz.f5 [(.vw, (.pair (.int .i64) (.pair (.int .i64) (.pair (.lst false (.pair (.int .i64) (.pair (.pair .str (.pair (.int .i64) (.pair (.int .i64) (.pair .str .unit)))) .unit))) .unit))))] false (.pair .str (.pair .bool .unit))).getD .bot
noncomputable def e_spec_AskedText : Ent := ⟨5, [(.vw, (.pair (.int .i64) (.pair (.int .i64) (.pair (.lst false (.pair (.int .i64) (.pair (.pair .str (.pair (.int .i64) (.pair (.int .i64) (.pair .str .unit)))) .unit))) .unit))))], false, (.pair .str (.pair .bool .unit)), runPE [e_spec_l16Who, e_spec_l6Batch, e_spec_l16Text] p_spec_AskedText⟩
theorem ok_spec_AskedText : e_spec_AskedText.Ok Tryz.prog := Ent.ok_of (pe := p_spec_AskedText) (fn := Tryz.f5) (hs := h_spec_AskedText) envC (ok_cons ok_spec_l16Who (ok_cons ok_spec_l6Batch (ok_cons ok_spec_l16Text ok_nil))) Tryz.func5 (by decide +kernel) (some_getD (d := PE.bot) (by kernel_rfl)) rfl

/-- loop.example/g00300/impl.within -/
def h_impl_within : List (Nat × Hint) := [(3, .join [(0, ⟨[], [(6, 0, .bool)]⟩)])]
noncomputable def p_impl_within : PE := (comp tysC [] h_impl_within Tryz.f24 [(.vw, (.int .i64)), (.vw, (.int .i64)), (.vw, (.int .i64))] true .bool).getD .bot
noncomputable def e_impl_within : Ent := ⟨24, [(.vw, (.int .i64)), (.vw, (.int .i64)), (.vw, (.int .i64))], true, .bool, runPE [] p_impl_within⟩
theorem ok_impl_within : e_impl_within.Ok Tryz.prog := Ent.ok_of (pe := p_impl_within) (fn := Tryz.f24) (hs := h_impl_within) envC ok_nil Tryz.func24 (by decide +kernel) (some_getD (d := PE.bot) (by kernel_rfl)) rfl

/-- loop.example/g00300/impl.isClient -/
def h_impl_isClient : List (Nat × Hint) := [(3, .join [(0, ⟨[], [(4, 0, .bool)]⟩)])]
noncomputable def p_impl_isClient : PE := (comp tysC [e_impl_within] h_impl_isClient Tryz.f14 [(.vw, (.int .i64)), (.vw, (.int .i64))] true .bool).getD .bot
noncomputable def e_impl_isClient : Ent := ⟨14, [(.vw, (.int .i64)), (.vw, (.int .i64))], true, .bool, runPE [e_impl_within] p_impl_isClient⟩
theorem ok_impl_isClient : e_impl_isClient.Ok Tryz.prog := Ent.ok_of (pe := p_impl_isClient) (fn := Tryz.f14) (hs := h_impl_isClient) envC (ok_cons ok_impl_within ok_nil) Tryz.func14 (by decide +kernel) (some_getD (d := PE.bot) (by kernel_rfl)) rfl

/-- strings.Split -/
noncomputable abbrev e_strings_Split : Ent := splitE 51
theorem ok_strings_Split : e_strings_Split.Ok Tryz.prog := splitE_ok Tryz.l146 (by kernel_rfl) Tryz.func51 (by decide +kernel) rfl glbMaxLen

/-- loop.example/g00300/impl.labelsOf -/
def h_impl_labelsOf : List (Nat × Hint) := []
noncomputable def p_impl_labelsOf : PE := (comp tysC [e_strings_Split] h_impl_labelsOf Tryz.f47 [(.vw, .str)] true (.lst true .str)).getD .bot
noncomputable def e_impl_labelsOf : Ent := ⟨47, [(.vw, .str)], true, (.lst true .str), runPE [e_strings_Split] p_impl_labelsOf⟩
theorem ok_impl_labelsOf : e_impl_labelsOf.Ok Tryz.prog := Ent.ok_of (pe := p_impl_labelsOf) (fn := Tryz.f47) (hs := h_impl_labelsOf) envC (ok_cons ok_strings_Split ok_nil) Tryz.func47 (by decide +kernel) (some_getD (d := PE.bot) (by kernel_rfl)) rfl

/-- strings.Trim -/
noncomputable abbrev e_strings_Trim : Ent := trimE 62
theorem ok_strings_Trim : e_strings_Trim.Ok Tryz.prog := trimE_ok Tryz.l160 (by kernel_rfl) (by kernel_rfl) Tryz.func62 (by decide +kernel) rfl

/-- loop.example/g00300/impl.isLabel -/
def h_impl_isLabel : List (Nat × Hint) := [(7, .join [(0, ⟨[], [(2, 0, .bool)]⟩)])]
noncomputable def p_impl_isLabel : PE := (comp tysC [e_impl_within, e_strings_Trim] h_impl_isLabel Tryz.f50 [(.vw, .str)] true .bool).getD .bot
noncomputable def e_impl_isLabel : Ent := ⟨50, [(.vw, .str)], true, .bool, runPE [e_impl_within, e_strings_Trim] p_impl_isLabel⟩
theorem ok_impl_isLabel : e_impl_isLabel.Ok Tryz.prog := Ent.ok_of (pe := p_impl_isLabel) (fn := Tryz.f50) (hs := h_impl_isLabel) envC (ok_cons ok_impl_within (ok_cons ok_strings_Trim ok_nil)) Tryz.func50 (by decide +kernel) (some_getD (d := PE.bot) (by kernel_rfl)) rfl

/-- loop.example/g00300/impl.GoodName$1 -/
def h_impl_GoodName_1 : List (Nat × Hint) := []
noncomputable def p_impl_GoodName_1 : PE := (comp tysC [e_impl_isLabel] h_impl_GoodName_1 Tryz.f49 [(.vw, .str)] true .bool).getD .bot
noncomputable def e_impl_GoodName_1 : Ent := ⟨49, [(.vw, .str)], true, .bool, runPE [e_impl_isLabel] p_impl_GoodName_1⟩
theorem ok_impl_GoodName_1 : e_impl_GoodName_1.Ok Tryz.prog := Ent.ok_of (pe := p_impl_GoodName_1) (fn := Tryz.f49) (hs := h_impl_GoodName_1) envC (ok_cons ok_impl_isLabel ok_nil) Tryz.func49 (by decide +kernel) (some_getD (d := PE.bot) (by kernel_rfl)) rfl

/-- slices.IndexFunc[[]string,string] -/
def h_slices_IndexFunc_string_string__impl_GoodName_1 : List (Nat × Hint) := [(26, .loop ⟨[0, 1, 7], [(8, 0, (.int .i64))]⟩ [(1, ⟨[], [(4, 0, (.int .i64))]⟩), (2, ⟨[], []⟩)])]
noncomputable def p_slices_IndexFunc_string_string__impl_GoodName_1 : PE := (comp tysC [e_impl_GoodName_1] h_slices_IndexFunc_string_string__impl_GoodName_1 Tryz.f61 [(.vw, (.lst false .str)), (.vw, (.fn 49 .unit))] true (.int .i64)).getD .bot
noncomputable def e_slices_IndexFunc_string_string__impl_GoodName_1 : Ent := ⟨61, [(.vw, (.lst false .str)), (.vw, (.fn 49 .unit))], true, (.int .i64), runPE [e_impl_GoodName_1] p_slices_IndexFunc_string_string__impl_GoodName_1⟩
theorem ok_slices_IndexFunc_string_string__impl_GoodName_1 : e_slices_IndexFunc_string_string__impl_GoodName_1.Ok Tryz.prog := Ent.ok_of (pe := p_slices_IndexFunc_string_string__impl_GoodName_1) (fn := Tryz.f61) (hs := h_slices_IndexFunc_string_string__impl_GoodName_1) envC (ok_cons ok_impl_GoodName_1 ok_nil) Tryz.func61 (by decide +kernel) (some_getD (d := PE.bot) (by kernel_rfl)) rfl

/-- slices.ContainsFunc[[]string,string] -/
def h_slices_ContainsFunc_string_string__impl_GoodName_1 : List (Nat × Hint) := []
noncomputable def p_slices_ContainsFunc_string_string__impl_GoodName_1 : PE := (comp tysC [e_slices_IndexFunc_string_string__impl_GoodName_1] h_slices_ContainsFunc_string_string__impl_GoodName_1 Tryz.f48 [(.vw, (.lst false .str)), (.vw, (.fn 49 .unit))] true .bool).getD .bot
noncomputable def e_slices_ContainsFunc_string_string__impl_GoodName_1 : Ent := ⟨48, [(.vw, (.lst false .str)), (.vw, (.fn 49 .unit))], true, .bool, runPE [e_slices_IndexFunc_string_string__impl_GoodName_1] p_slices_ContainsFunc_string_string__impl_GoodName_1⟩
theorem ok_slices_ContainsFunc_string_string__impl_GoodName_1 : e_slices_ContainsFunc_string_string__impl_GoodName_1.Ok Tryz.prog := Ent.ok_of (pe := p_slices_ContainsFunc_string_string__impl_GoodName_1) (fn := Tryz.f48) (hs := h_slices_ContainsFunc_string_string__impl_GoodName_1) envC (ok_cons ok_slices_IndexFunc_string_string__impl_GoodName_1 ok_nil) Tryz.func48 (by decide +kernel) (some_getD (d := PE.bot) (by kernel_rfl)) rfl

/-- loop.example/g00300/impl.GoodName -/
def h_impl_GoodName : List (Nat × Hint) := [(15, .join [(0, ⟨[], [(2, 0, .bool)]⟩)])]
noncomputable def p_impl_GoodName : PE := (comp tysC [e_impl_labelsOf, e_slices_ContainsFunc_string_string__impl_GoodName_1] h_impl_GoodName Tryz.f36 [(.vw, .str)] true .bool).getD .bot
noncomputable def e_impl_GoodName : Ent := ⟨36, [(.vw, .str)], true, .bool, runPE [e_impl_labelsOf, e_slices_ContainsFunc_string_string__impl_GoodName_1] p_impl_GoodName⟩
theorem ok_impl_GoodName : e_impl_GoodName.Ok Tryz.prog := Ent.ok_of (pe := p_impl_GoodName) (fn := Tryz.f36) (hs := h_impl_GoodName) envC (ok_cons ok_impl_labelsOf (ok_cons ok_slices_ContainsFunc_string_string__impl_GoodName_1 ok_nil)) Tryz.func36 (by decide +kernel) (some_getD (d := PE.bot) (by kernel_rfl)) rfl

/-- strconv.Atoi -/
noncomputable abbrev e_strconv_Atoi : Ent := atoiE 64
theorem ok_strconv_Atoi : e_strconv_Atoi.Ok Tryz.prog := atoiE_ok Tryz.l172 (by kernel_rfl) Tryz.func64 (by decide +kernel) rfl glbSyn glbRng

/-- strconv.Itoa -/
noncomputable abbrev e_strconv_Itoa : Ent := itoaE 28
theorem ok_strconv_Itoa : e_strconv_Itoa.Ok Tryz.prog := itoaE_ok Tryz.l171 (by kernel_rfl) Tryz.func28 (by decide +kernel) rfl (by kernel_rfl) glbPow

/-- loop.example/g00300/impl.numberIn -/
def h_impl_numberIn : List (Nat × Hint) := [(7, .join [(0, ⟨[], [(4, 0, (.int .i64)), (5, 0, .bool)]⟩)])]
noncomputable def p_impl_numberIn : PE := (comp tysC [e_strconv_Atoi, e_impl_within, e_strconv_Itoa] h_impl_numberIn Tryz.f52 [(.vw, .str), (.vw, (.int .i64))] false (.pair (.int .i64) (.pair .bool .unit))).getD .bot
noncomputable def e_impl_numberIn : Ent := ⟨52, [(.vw, .str), (.vw, (.int .i64))], false, (.pair (.int .i64) (.pair .bool .unit)), runPE [e_strconv_Atoi, e_impl_within, e_strconv_Itoa] p_impl_numberIn⟩
theorem ok_impl_numberIn : e_impl_numberIn.Ok Tryz.prog := Ent.ok_of (pe := p_impl_numberIn) (fn := Tryz.f52) (hs := h_impl_numberIn) envC (ok_cons ok_strconv_Atoi (ok_cons ok_impl_within (ok_cons ok_strconv_Itoa ok_nil))) Tryz.func52 (by decide +kernel) (some_getD (d := PE.bot) (by kernel_rfl)) rfl

/-- loop.example/g00300/impl.big -/
def h_impl_big : List (Nat × Hint) := [(58, .loop ⟨[0], [(5, 0, (.lst true (.int .u8))), (6, 0, (.int .i64))]⟩ [(2, ⟨[], [(5, 0, (.lst true (.int .u8)))]⟩)])]
noncomputable def p_impl_big : PE := (comp tysC [] h_impl_big Tryz.f53 [(.vw, (.int .i64)), (.vw, (.int .i64))] true .str).getD .bot
noncomputable def e_impl_big : Ent := ⟨53, [(.vw, (.int .i64)), (.vw, (.int .i64))], true, .str, runPE [] p_impl_big⟩
theorem ok_impl_big : e_impl_big.Ok Tryz.prog := Ent.ok_of (pe := p_impl_big) (fn := Tryz.f53) (hs := h_impl_big) envC ok_nil Tryz.func53 (by decide +kernel) (some_getD (d := PE.bot) (by kernel_rfl)) rfl

/-- strings.Contains -/
noncomputable abbrev e_strings_Contains : Ent := containsE 65
theorem ok_strings_Contains : e_strings_Contains.Ok Tryz.prog := containsE_ok Tryz.l144 (by kernel_rfl) Tryz.func65 (by decide +kernel) rfl glbMaxLen

/-- loop.example/g00300/impl.isTarget -/
def h_impl_isTarget : List (Nat × Hint) := [(3, .join [(0, ⟨[], [(2, 0, .bool)]⟩)])]
noncomputable def p_impl_isTarget : PE := (comp tysC [e_impl_GoodName, e_strings_Contains] h_impl_isTarget Tryz.f54 [(.vw, .str)] true .bool).getD .bot
noncomputable def e_impl_isTarget : Ent := ⟨54, [(.vw, .str)], true, .bool, runPE [e_impl_GoodName, e_strings_Contains] p_impl_isTarget⟩
theorem ok_impl_isTarget : e_impl_isTarget.Ok Tryz.prog := Ent.ok_of (pe := p_impl_isTarget) (fn := Tryz.f54) (hs := h_impl_isTarget) envC (ok_cons ok_impl_GoodName (ok_cons ok_strings_Contains ok_nil)) Tryz.func54 (by decide +kernel) (some_getD (d := PE.bot) (by kernel_rfl)) rfl

/-- loop.example/g00300/impl.labelBytes -/
def h_impl_labelBytes : List (Nat × Hint) := [(58, .loop ⟨[7, 8], [(3, 0, .str), (9, 0, (.int .i64))]⟩ [(2, ⟨[], [(3, 0, .str)]⟩)])]
noncomputable def p_impl_labelBytes : PE := (comp tysC [e_impl_labelsOf] h_impl_labelBytes Tryz.f55 [(.vw, .str)] true .str).getD .bot
noncomputable def e_impl_labelBytes : Ent := ⟨55, [(.vw, .str)], true, .str, runPE [e_impl_labelsOf] p_impl_labelBytes⟩
theorem ok_impl_labelBytes : e_impl_labelBytes.Ok Tryz.prog := Ent.ok_of (pe := p_impl_labelBytes) (fn := Tryz.f55) (hs := h_impl_labelBytes) envC (ok_cons ok_impl_labelsOf ok_nil) Tryz.func55 (by decide +kernel) (some_getD (d := PE.bot) (by kernel_rfl)) rfl

/-- strings.Cut -/
noncomputable abbrev e_strings_Cut : Ent := cutE 56
theorem ok_strings_Cut : e_strings_Cut.Ok Tryz.prog := cutE_ok Tryz.l145 (by kernel_rfl) Tryz.func56 (by decide +kernel) rfl glbMaxLen

/-- loop.example/g00300/impl.DataBytes$1 -/
def h_impl_DataBytes_1 : List (Nat × Hint) := [(3, .join [(0, ⟨[], [(2, 0, .bool)]⟩)])]
noncomputable def p_impl_DataBytes_1 : PE := (comp tysC [] h_impl_DataBytes_1 Tryz.f58 [(.vw, (.int .u8))] true .bool).getD .bot
noncomputable def e_impl_DataBytes_1 : Ent := ⟨58, [(.vw, (.int .u8))], true, .bool, runPE [] p_impl_DataBytes_1⟩
theorem ok_impl_DataBytes_1 : e_impl_DataBytes_1.Ok Tryz.prog := Ent.ok_of (pe := p_impl_DataBytes_1) (fn := Tryz.f58) (hs := h_impl_DataBytes_1) envC ok_nil Tryz.func58 (by decide +kernel) (some_getD (d := PE.bot) (by kernel_rfl)) rfl

/-- slices.IndexFunc[[]byte,byte] -/
def h_slices_IndexFunc_byte_byte__impl_DataBytes_1 : List (Nat × Hint) := [(26, .loop ⟨[0, 1, 7], [(8, 0, (.int .i64))]⟩ [(1, ⟨[], [(4, 0, (.int .i64))]⟩), (2, ⟨[], []⟩)])]
noncomputable def p_slices_IndexFunc_byte_byte__impl_DataBytes_1 : PE := (comp tysC [e_impl_DataBytes_1] h_slices_IndexFunc_byte_byte__impl_DataBytes_1 Tryz.f67 [(.vw, (.lst false (.int .u8))), (.vw, (.fn 58 .unit))] true (.int .i64)).getD .bot
noncomputable def e_slices_IndexFunc_byte_byte__impl_DataBytes_1 : Ent := ⟨67, [(.vw, (.lst false (.int .u8))), (.vw, (.fn 58 .unit))], true, (.int .i64), runPE [e_impl_DataBytes_1] p_slices_IndexFunc_byte_byte__impl_DataBytes_1⟩
theorem ok_slices_IndexFunc_byte_byte__impl_DataBytes_1 : e_slices_IndexFunc_byte_byte__impl_DataBytes_1.Ok Tryz.prog := Ent.ok_of (pe := p_slices_IndexFunc_byte_byte__impl_DataBytes_1) (fn := Tryz.f67) (hs := h_slices_IndexFunc_byte_byte__impl_DataBytes_1) envC (ok_cons ok_impl_DataBytes_1 ok_nil) Tryz.func67 (by decide +kernel) (some_getD (d := PE.bot) (by kernel_rfl)) rfl

/-- slices.ContainsFunc[[]byte,byte] -/
def h_slices_ContainsFunc_byte_byte__impl_DataBytes_1 : List (Nat × Hint) := []
noncomputable def p_slices_ContainsFunc_byte_byte__impl_DataBytes_1 : PE := (comp tysC [e_slices_IndexFunc_byte_byte__impl_DataBytes_1] h_slices_ContainsFunc_byte_byte__impl_DataBytes_1 Tryz.f57 [(.vw, (.lst false (.int .u8))), (.vw, (.fn 58 .unit))] true .bool).getD .bot
noncomputable def e_slices_ContainsFunc_byte_byte__impl_DataBytes_1 : Ent := ⟨57, [(.vw, (.lst false (.int .u8))), (.vw, (.fn 58 .unit))], true, .bool, runPE [e_slices_IndexFunc_byte_byte__impl_DataBytes_1] p_slices_ContainsFunc_byte_byte__impl_DataBytes_1⟩
theorem ok_slices_ContainsFunc_byte_byte__impl_DataBytes_1 : e_slices_ContainsFunc_byte_byte__impl_DataBytes_1.Ok Tryz.prog := Ent.ok_of (pe := p_slices_ContainsFunc_byte_byte__impl_DataBytes_1) (fn := Tryz.f57) (hs := h_slices_ContainsFunc_byte_byte__impl_DataBytes_1) envC (ok_cons ok_slices_IndexFunc_byte_byte__impl_DataBytes_1 ok_nil) Tryz.func57 (by decide +kernel) (some_getD (d := PE.bot) (by kernel_rfl)) rfl

/-- loop.example/g00300/impl.DataBytes -/
def h_impl_DataBytes : List (Nat × Hint) := [(55292, .join [(0, ⟨[1], [(103, 0, .bool)]⟩)]), (55286, .join [(0, ⟨[15, 17], [(87, 0, .bool)]⟩)]), (107, .join [(0, ⟨[1, 19], [(48, 0, .bool)]⟩)]), (3418, .loop ⟨[7, 24, 25], [(6, 0, .str), (26, 0, (.int .i64))]⟩ [(1, ⟨[4, 5], []⟩), (3, ⟨[], [(6, 0, .str)]⟩)]), (875110, .join [(0, ⟨[6, 7, 10, 24, 25, 26], [(41, 0, .bool)]⟩)])]
noncomputable def p_impl_DataBytes : PE := (comp tysC [e_strings_Split, e_impl_numberIn, e_impl_big, e_impl_isTarget, e_impl_labelBytes, e_strings_Cut, e_slices_ContainsFunc_byte_byte__impl_DataBytes_1] h_impl_DataBytes Tryz.f37 [(.vw, (.int .i64)), (.vw, .str)] false (.pair .str (.pair .bool .unit))).getD .bot
noncomputable def e_impl_DataBytes : Ent := ⟨37, [(.vw, (.int .i64)), (.vw, .str)], false, (.pair .str (.pair .bool .unit)), runPE [e_strings_Split, e_impl_numberIn, e_impl_big, e_impl_isTarget, e_impl_labelBytes, e_strings_Cut, e_slices_ContainsFunc_byte_byte__impl_DataBytes_1] p_impl_DataBytes⟩
theorem ok_impl_DataBytes : e_impl_DataBytes.Ok Tryz.prog := Ent.ok_of (pe := p_impl_DataBytes) (fn := Tryz.f37) (hs := h_impl_DataBytes) envC (ok_cons ok_strings_Split (ok_cons ok_impl_numberIn (ok_cons ok_impl_big (ok_cons ok_impl_isTarget (ok_cons ok_impl_labelBytes (ok_cons ok_strings_Cut (ok_cons ok_slices_ContainsFunc_byte_byte__impl_DataBytes_1 ok_nil))))))) Tryz.func37 (by decide +kernel) (some_getD (d := PE.bot) (by kernel_rfl)) rfl

/-- loop.example/g00300/impl.GoodRecord -/
def h_impl_GoodRecord : List (Nat × Hint) := [(6, .join [(0, ⟨[1], [(20, 0, .bool)]⟩)])]
noncomputable def p_impl_GoodRecord : PE := (comp tysC [e_impl_GoodName, e_impl_within, e_impl_DataBytes] h_impl_GoodRecord Tryz.f27 [(.vw, (.pair .str (.pair (.int .i64) (.pair (.int .i64) (.pair .str .unit)))))] true .bool).getD .bot
noncomputable def e_impl_GoodRecord : Ent := ⟨27, [(.vw, (.pair .str (.pair (.int .i64) (.pair (.int .i64) (.pair .str .unit)))))], true, .bool, runPE [e_impl_GoodName, e_impl_within, e_impl_DataBytes] p_impl_GoodRecord⟩
theorem ok_impl_GoodRecord : e_impl_GoodRecord.Ok Tryz.prog := Ent.ok_of (pe := p_impl_GoodRecord) (fn := Tryz.f27) (hs := h_impl_GoodRecord) envC (ok_cons ok_impl_GoodName (ok_cons ok_impl_within (ok_cons ok_impl_DataBytes ok_nil))) Tryz.func27 (by decide +kernel) (some_getD (d := PE.bot) (by kernel_rfl)) rfl

/-- loop.example/g00300/impl.areChanges$1 -/
def h_impl_areChanges_1 : List (Nat × Hint) := [(3, .join [(0, ⟨[], [(2, 0, .bool)]⟩)])]
noncomputable def p_impl_areChanges_1 : PE := (comp tysC [e_impl_within, e_impl_GoodRecord] h_impl_areChanges_1 Tryz.f26 [(.vw, (.pair (.int .i64) (.pair (.pair .str (.pair (.int .i64) (.pair (.int .i64) (.pair .str .unit)))) .unit)))] true .bool).getD .bot
noncomputable def e_impl_areChanges_1 : Ent := ⟨26, [(.vw, (.pair (.int .i64) (.pair (.pair .str (.pair (.int .i64) (.pair (.int .i64) (.pair .str .unit)))) .unit)))], true, .bool, runPE [e_impl_within, e_impl_GoodRecord] p_impl_areChanges_1⟩
theorem ok_impl_areChanges_1 : e_impl_areChanges_1.Ok Tryz.prog := Ent.ok_of (pe := p_impl_areChanges_1) (fn := Tryz.f26) (hs := h_impl_areChanges_1) envC (ok_cons ok_impl_within (ok_cons ok_impl_GoodRecord ok_nil)) Tryz.func26 (by decide +kernel) (some_getD (d := PE.bot) (by kernel_rfl)) rfl

/-- slices.IndexFunc[[]loop.example/g00300/impl.Change,loop.example/g00300/impl.Change] -/
def h_slices_IndexFunc_impl_Change_impl_Change__impl_areChanges_1 : List (Nat × Hint) := [(26, .loop ⟨[0, 1, 7], [(8, 0, (.int .i64))]⟩ [(1, ⟨[], [(4, 0, (.int .i64))]⟩), (2, ⟨[], []⟩)])]
noncomputable def p_slices_IndexFunc_impl_Change_impl_Change__impl_areChanges_1 : PE := (comp tysC [e_impl_areChanges_1] h_slices_IndexFunc_impl_Change_impl_Change__impl_areChanges_1 Tryz.f35 [(.vw, (.lst false (.pair (.int .i64) (.pair (.pair .str (.pair (.int .i64) (.pair (.int .i64) (.pair .str .unit)))) .unit)))), (.vw, (.fn 26 .unit))] true (.int .i64)).getD .bot
noncomputable def e_slices_IndexFunc_impl_Change_impl_Change__impl_areChanges_1 : Ent := ⟨35, [(.vw, (.lst false (.pair (.int .i64) (.pair (.pair .str (.pair (.int .i64) (.pair (.int .i64) (.pair .str .unit)))) .unit)))), (.vw, (.fn 26 .unit))], true, (.int .i64), runPE [e_impl_areChanges_1] p_slices_IndexFunc_impl_Change_impl_Change__impl_areChanges_1⟩
theorem ok_slices_IndexFunc_impl_Change_impl_Change__impl_areChanges_1 : e_slices_IndexFunc_impl_Change_impl_Change__impl_areChanges_1.Ok Tryz.prog := Ent.ok_of (pe := p_slices_IndexFunc_impl_Change_impl_Change__impl_areChanges_1) (fn := Tryz.f35) (hs := h_slices_IndexFunc_impl_Change_impl_Change__impl_areChanges_1) envC (ok_cons ok_impl_areChanges_1 ok_nil) Tryz.func35 (by decide +kernel) (some_getD (d := PE.bot) (by kernel_rfl)) rfl

/-- slices.ContainsFunc[[]loop.example/g00300/impl.Change,loop.example/g00300/impl.Change] -/
def h_slices_ContainsFunc_impl_Change_impl_Change__impl_areChanges_1 : List (Nat × Hint) := []
noncomputable def p_slices_ContainsFunc_impl_Change_impl_Change__impl_areChanges_1 : PE := (comp tysC [e_slices_IndexFunc_impl_Change_impl_Change__impl_areChanges_1] h_slices_ContainsFunc_impl_Change_impl_Change__impl_areChanges_1 Tryz.f25 [(.vw, (.lst false (.pair (.int .i64) (.pair (.pair .str (.pair (.int .i64) (.pair (.int .i64) (.pair .str .unit)))) .unit)))), (.vw, (.fn 26 .unit))] true .bool).getD .bot
noncomputable def e_slices_ContainsFunc_impl_Change_impl_Change__impl_areChanges_1 : Ent := ⟨25, [(.vw, (.lst false (.pair (.int .i64) (.pair (.pair .str (.pair (.int .i64) (.pair (.int .i64) (.pair .str .unit)))) .unit)))), (.vw, (.fn 26 .unit))], true, .bool, runPE [e_slices_IndexFunc_impl_Change_impl_Change__impl_areChanges_1] p_slices_ContainsFunc_impl_Change_impl_Change__impl_areChanges_1⟩
theorem ok_slices_ContainsFunc_impl_Change_impl_Change__impl_areChanges_1 : e_slices_ContainsFunc_impl_Change_impl_Change__impl_areChanges_1.Ok Tryz.prog := Ent.ok_of (pe := p_slices_ContainsFunc_impl_Change_impl_Change__impl_areChanges_1) (fn := Tryz.f25) (hs := h_slices_ContainsFunc_impl_Change_impl_Change__impl_areChanges_1) envC (ok_cons ok_slices_IndexFunc_impl_Change_impl_Change__impl_areChanges_1 ok_nil) Tryz.func25 (by decide +kernel) (some_getD (d := PE.bot) (by kernel_rfl)) rfl

/-- loop.example/g00300/impl.areChanges -/
def h_impl_areChanges : List (Nat × Hint) := [(3, .join [(0, ⟨[], [(2, 0, .bool)]⟩)])]
noncomputable def p_impl_areChanges : PE := (comp tysC [e_slices_ContainsFunc_impl_Change_impl_Change__impl_areChanges_1] h_impl_areChanges Tryz.f15 [(.vw, (.lst false (.pair (.int .i64) (.pair (.pair .str (.pair (.int .i64) (.pair (.int .i64) (.pair .str .unit)))) .unit))))] true .bool).getD .bot
noncomputable def e_impl_areChanges : Ent := ⟨15, [(.vw, (.lst false (.pair (.int .i64) (.pair (.pair .str (.pair (.int .i64) (.pair (.int .i64) (.pair .str .unit)))) .unit))))], true, .bool, runPE [e_slices_ContainsFunc_impl_Change_impl_Change__impl_areChanges_1] p_impl_areChanges⟩
theorem ok_impl_areChanges : e_impl_areChanges.Ok Tryz.prog := Ent.ok_of (pe := p_impl_areChanges) (fn := Tryz.f15) (hs := h_impl_areChanges) envC (ok_cons ok_slices_ContainsFunc_impl_Change_impl_Change__impl_areChanges_1 ok_nil) Tryz.func15 (by decide +kernel) (some_getD (d := PE.bot) (by kernel_rfl)) rfl

/-- loop.example/g00300/impl.told -/
def h_impl_told : List (Nat × Hint) := []
noncomputable def p_impl_told : PE := (comp tysC [] h_impl_told Tryz.f39 [(.vw, .str)] true .str).getD .bot
noncomputable def e_impl_told : Ent := ⟨39, [(.vw, .str)], true, .str, runPE [] p_impl_told⟩
theorem ok_impl_told : e_impl_told.Ok Tryz.prog := Ent.ok_of (pe := p_impl_told) (fn := Tryz.f39) (hs := h_impl_told) envC ok_nil Tryz.func39 (by decide +kernel) (some_getD (d := PE.bot) (by kernel_rfl)) rfl

/-- loop.example/g00300/impl.recordText -/
def h_impl_recordText : List (Nat × Hint) := []
noncomputable def p_impl_recordText : PE := (comp tysC [e_impl_told, e_strconv_Itoa] h_impl_recordText Tryz.f29 [(.vw, (.pair .str (.pair (.int .i64) (.pair (.int .i64) (.pair .str .unit)))))] true .str).getD .bot
noncomputable def e_impl_recordText : Ent := ⟨29, [(.vw, (.pair .str (.pair (.int .i64) (.pair (.int .i64) (.pair .str .unit)))))], true, .str, runPE [e_impl_told, e_strconv_Itoa] p_impl_recordText⟩
theorem ok_impl_recordText : e_impl_recordText.Ok Tryz.prog := Ent.ok_of (pe := p_impl_recordText) (fn := Tryz.f29) (hs := h_impl_recordText) envC (ok_cons ok_impl_told (ok_cons ok_strconv_Itoa ok_nil)) Tryz.func29 (by decide +kernel) (some_getD (d := PE.bot) (by kernel_rfl)) rfl

/-- loop.example/g00300/impl.askedText -/
def h_impl_askedText : List (Nat × Hint) := [(58, .loop ⟨[15, 16], [(3, 0, .str), (17, 0, (.int .i64))]⟩ [(2, ⟨[], [(3, 0, .str)]⟩)])]
noncomputable def p_impl_askedText : PE := (comp tysC [e_strconv_Itoa, e_impl_recordText] h_impl_askedText Tryz.f16 [(.vw, (.pair (.int .i64) (.pair (.int .i64) (.pair (.lst false (.pair (.int .i64) (.pair (.pair .str (.pair (.int .i64) (.pair (.int .i64) (.pair .str .unit)))) .unit))) .unit))))] true .str).getD .bot
noncomputable def e_impl_askedText : Ent := ⟨16, [(.vw, (.pair (.int .i64) (.pair (.int .i64) (.pair (.lst false (.pair (.int .i64) (.pair (.pair .str (.pair (.int .i64) (.pair (.int .i64) (.pair .str .unit)))) .unit))) .unit))))], true, .str, runPE [e_strconv_Itoa, e_impl_recordText] p_impl_askedText⟩
theorem ok_impl_askedText : e_impl_askedText.Ok Tryz.prog := Ent.ok_of (pe := p_impl_askedText) (fn := Tryz.f16) (hs := h_impl_askedText) envC (ok_cons ok_strconv_Itoa (ok_cons ok_impl_recordText ok_nil)) Tryz.func16 (by decide +kernel) (some_getD (d := PE.bot) (by kernel_rfl)) rfl

/-- loop.example/g00300/impl.AskedText -/
def h_impl_AskedText : List (Nat × Hint) := [(6, .join [(0, ⟨[1], [(15, 0, .bool)]⟩)])]
noncomputable def p_impl_AskedText : PE := (comp tysC [e_impl_isClient, e_impl_areChanges, e_impl_askedText] h_impl_AskedText Tryz.f7 [(.vw, (.pair (.int .i64) (.pair (.int .i64) (.pair (.lst false (.pair (.int .i64) (.pair (.pair .str (.pair (.int .i64) (.pair (.int .i64) (.pair .str .unit)))) .unit))) .unit))))] false (.pair .str (.pair .bool .unit))).getD .bot
noncomputable def e_impl_AskedText : Ent := ⟨7, [(.vw, (.pair (.int .i64) (.pair (.int .i64) (.pair (.lst false (.pair (.int .i64) (.pair (.pair .str (.pair (.int .i64) (.pair (.int .i64) (.pair .str .unit)))) .unit))) .unit))))], false, (.pair .str (.pair .bool .unit)), runPE [e_impl_isClient, e_impl_areChanges, e_impl_askedText] p_impl_AskedText⟩
theorem ok_impl_AskedText : e_impl_AskedText.Ok Tryz.prog := Ent.ok_of (pe := p_impl_AskedText) (fn := Tryz.f7) (hs := h_impl_AskedText) envC (ok_cons ok_impl_isClient (ok_cons ok_impl_areChanges (ok_cons ok_impl_askedText ok_nil))) Tryz.func7 (by decide +kernel) (some_getD (d := PE.bot) (by kernel_rfl)) rfl

/-- loop.example/g00300/laws.eqRecord -/
def h_laws_eqRecord : List (Nat × Hint) := []
noncomputable def p_laws_eqRecord : PE := (comp tysC [] h_laws_eqRecord Tryz.f40 [(.vw, (.pair .str (.pair (.int .i64) (.pair (.int .i64) (.pair .str .unit))))), (.vw, (.pair .str (.pair (.int .i64) (.pair (.int .i64) (.pair .str .unit)))))] true .bool).getD .bot
noncomputable def e_laws_eqRecord : Ent := ⟨40, [(.vw, (.pair .str (.pair (.int .i64) (.pair (.int .i64) (.pair .str .unit))))), (.vw, (.pair .str (.pair (.int .i64) (.pair (.int .i64) (.pair .str .unit)))))], true, .bool, runPE [] p_laws_eqRecord⟩
theorem ok_laws_eqRecord : e_laws_eqRecord.Ok Tryz.prog := Ent.ok_of (pe := p_laws_eqRecord) (fn := Tryz.f40) (hs := h_laws_eqRecord) envC ok_nil Tryz.func40 (by decide +kernel) (some_getD (d := PE.bot) (by kernel_rfl)) rfl

/-- loop.example/g00300/laws.eqChange -/
def h_laws_eqChange : List (Nat × Hint) := []
noncomputable def p_laws_eqChange : PE := (comp tysC [e_laws_eqRecord] h_laws_eqChange Tryz.f30 [(.vw, (.pair (.int .i64) (.pair (.pair .str (.pair (.int .i64) (.pair (.int .i64) (.pair .str .unit)))) .unit))), (.vw, (.pair (.int .i64) (.pair (.pair .str (.pair (.int .i64) (.pair (.int .i64) (.pair .str .unit)))) .unit)))] true .bool).getD .bot
noncomputable def e_laws_eqChange : Ent := ⟨30, [(.vw, (.pair (.int .i64) (.pair (.pair .str (.pair (.int .i64) (.pair (.int .i64) (.pair .str .unit)))) .unit))), (.vw, (.pair (.int .i64) (.pair (.pair .str (.pair (.int .i64) (.pair (.int .i64) (.pair .str .unit)))) .unit)))], true, .bool, runPE [e_laws_eqRecord] p_laws_eqChange⟩
theorem ok_laws_eqChange : e_laws_eqChange.Ok Tryz.prog := Ent.ok_of (pe := p_laws_eqChange) (fn := Tryz.f30) (hs := h_laws_eqChange) envC (ok_cons ok_laws_eqRecord ok_nil) Tryz.func30 (by decide +kernel) (some_getD (d := PE.bot) (by kernel_rfl)) rfl

/-- loop.example/g00300/laws.eqChangeS -/
def h_laws_eqChangeS : List (Nat × Hint) := [(58, .loop ⟨[0, 1], [(5, 0, (.int .i64))]⟩ [(1, ⟨[4], []⟩), (2, ⟨[], []⟩)])]
noncomputable def p_laws_eqChangeS : PE := (comp tysC [e_laws_eqChange] h_laws_eqChangeS Tryz.f17 [(.vw, (.lst false (.pair (.int .i64) (.pair (.pair .str (.pair (.int .i64) (.pair (.int .i64) (.pair .str .unit)))) .unit)))), (.vw, (.lst false (.pair (.int .i64) (.pair (.pair .str (.pair (.int .i64) (.pair (.int .i64) (.pair .str .unit)))) .unit))))] true .bool).getD .bot
noncomputable def e_laws_eqChangeS : Ent := ⟨17, [(.vw, (.lst false (.pair (.int .i64) (.pair (.pair .str (.pair (.int .i64) (.pair (.int .i64) (.pair .str .unit)))) .unit)))), (.vw, (.lst false (.pair (.int .i64) (.pair (.pair .str (.pair (.int .i64) (.pair (.int .i64) (.pair .str .unit)))) .unit))))], true, .bool, runPE [e_laws_eqChange] p_laws_eqChangeS⟩
theorem ok_laws_eqChangeS : e_laws_eqChangeS.Ok Tryz.prog := Ent.ok_of (pe := p_laws_eqChangeS) (fn := Tryz.f17) (hs := h_laws_eqChangeS) envC (ok_cons ok_laws_eqChange ok_nil) Tryz.func17 (by decide +kernel) (some_getD (d := PE.bot) (by kernel_rfl)) rfl

/-- loop.example/g00300/laws.eqAsked -/
def h_laws_eqAsked : List (Nat × Hint) := []
noncomputable def p_laws_eqAsked : PE := (comp tysC [e_laws_eqChangeS] h_laws_eqAsked Tryz.f8 [(.vw, (.pair (.int .i64) (.pair (.int .i64) (.pair (.lst false (.pair (.int .i64) (.pair (.pair .str (.pair (.int .i64) (.pair (.int .i64) (.pair .str .unit)))) .unit))) .unit)))), (.vw, (.pair (.int .i64) (.pair (.int .i64) (.pair (.lst false (.pair (.int .i64) (.pair (.pair .str (.pair (.int .i64) (.pair (.int .i64) (.pair .str .unit)))) .unit))) .unit))))] true .bool).getD .bot
noncomputable def e_laws_eqAsked : Ent := ⟨8, [(.vw, (.pair (.int .i64) (.pair (.int .i64) (.pair (.lst false (.pair (.int .i64) (.pair (.pair .str (.pair (.int .i64) (.pair (.int .i64) (.pair .str .unit)))) .unit))) .unit)))), (.vw, (.pair (.int .i64) (.pair (.int .i64) (.pair (.lst false (.pair (.int .i64) (.pair (.pair .str (.pair (.int .i64) (.pair (.int .i64) (.pair .str .unit)))) .unit))) .unit))))], true, .bool, runPE [e_laws_eqChangeS] p_laws_eqAsked⟩
theorem ok_laws_eqAsked : e_laws_eqAsked.Ok Tryz.prog := Ent.ok_of (pe := p_laws_eqAsked) (fn := Tryz.f8) (hs := h_laws_eqAsked) envC (ok_cons ok_laws_eqChangeS ok_nil) Tryz.func8 (by decide +kernel) (some_getD (d := PE.bot) (by kernel_rfl)) rfl

/-- loop.example/g00300/laws.FnExactAskedText -/
def h_laws_FnExactAskedText : List (Nat × Hint) := [(510, .join [(0, ⟨[1, 6], [(34, 0, .bool)]⟩)])]
noncomputable def p_laws_FnExactAskedText : PE := (comp tysC [e_laws_szAsked, e_laws_toAsked, e_spec_AskedText, e_impl_AskedText, e_laws_eqAsked] h_laws_FnExactAskedText Tryz.f3 [(.vw, (.pair (.int .i64) (.pair (.int .i64) (.pair (.lst false (.pair (.int .i64) (.pair (.pair .str (.pair (.int .i64) (.pair (.int .i64) (.pair .str .unit)))) .unit))) .unit))))] true .bool).getD .bot
noncomputable def e_laws_FnExactAskedText : Ent := ⟨3, [(.vw, (.pair (.int .i64) (.pair (.int .i64) (.pair (.lst false (.pair (.int .i64) (.pair (.pair .str (.pair (.int .i64) (.pair (.int .i64) (.pair .str .unit)))) .unit))) .unit))))], true, .bool, runPE [e_laws_szAsked, e_laws_toAsked, e_spec_AskedText, e_impl_AskedText, e_laws_eqAsked] p_laws_FnExactAskedText⟩
theorem ok_laws_FnExactAskedText : e_laws_FnExactAskedText.Ok Tryz.prog := Ent.ok_of (pe := p_laws_FnExactAskedText) (fn := Tryz.f3) (hs := h_laws_FnExactAskedText) envC (ok_cons ok_laws_szAsked (ok_cons ok_laws_toAsked (ok_cons ok_spec_AskedText (ok_cons ok_impl_AskedText (ok_cons ok_laws_eqAsked ok_nil))))) Tryz.func3 (by decide +kernel) (some_getD (d := PE.bot) (by kernel_rfl)) rfl
end Go.Proofs.YtclddfdojnfpeaaGreatDoor
