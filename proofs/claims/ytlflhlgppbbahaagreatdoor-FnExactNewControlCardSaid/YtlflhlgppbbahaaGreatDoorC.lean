/- The functions that the law reaches, each as a program of expressions. -/
import Derived.Test.YtlflhlgppbbahaaGreatDoorLb1
import Derived.Test.YtlflhlgppbbahaaGreatDoorProg
import Derived.KernelRfl
import Derived.Test.YtlflhlgppbbahaaGreatDoorLays
set_option linter.unusedSectionVars false
set_option linter.unusedVariables false
set_option linter.unusedSimpArgs false
namespace Go.Proofs.YtlflhlgppbbahaaGreatDoor
open Go Go.Own
set_option maxRecDepth 100000
/-- what is known of package variables: internal/bytealg.MaxLen holds a number, strconv.ErrSyntax and strconv.ErrRange an error or none, internal/strconv.uint64pow10 the powers of ten -/
instance glbI : Glb := Glb.at [(1, isInt .i64), (6, isErr), (7, isErr), (0, isArr (Lib.pow10Tab.map fun z => Value.int .u64 z).toArray)]
theorem glbMaxLen : ∀ h V, Glb.ok h V → ∃ m arr ty fz, h[Tryz.l146_ren.g 1]? = some (.cells arr ty fz) ∧ arr[0]? = some (.int .i64 m) :=
  fun _ _ h => isInt_get (h (1, isInt .i64) (by simp)).2
theorem glbSyn : ∀ h V, Glb.ok h V → ∃ ev arr ty fz, h[Tryz.l172_ren.g 15]? = some (.cells arr ty fz) ∧ arr[0]? = some ev ∧ (ev = .nilIface ∨ ∃ te pe, ev = .iface te pe) :=
  fun _ _ h => isErr_get (h (6, isErr) (by simp)).2
theorem glbRng : ∀ h V, Glb.ok h V → ∃ ev arr ty fz, h[Tryz.l172_ren.g 16]? = some (.cells arr ty fz) ∧ arr[0]? = some ev ∧ (ev = .nilIface ∨ ∃ te pe, ev = .iface te pe) :=
  fun _ _ h => isErr_get (h (7, isErr) (by simp)).2
theorem glbPow : ∀ h V, Glb.ok h V → ∃ ty fz, h[0]? = some (.cells (Lib.pow10Tab.map fun z => Value.int .u64 z).toArray ty fz) :=
  fun _ _ h => isArr_get (h (0, isArr (Lib.pow10Tab.map fun z => Value.int .u64 z).toArray) (by simp)).2

def tysC : List (TypeId × T × Nat) := [(3, (.int .i64), 0), (4, .bool, 0), (5, (.int .u8), 0), (9, .str, 0), (22, (.lst true (.pair .str (.pair (.int .i64) (.pair (.int .i64) (.pair .str .unit))))), 48), (24, (.pair .str (.pair (.int .i64) (.pair (.lst true (.pair .str (.pair (.int .i64) (.pair (.int .i64) (.pair .str .unit))))) .unit))), 0), (25, (.lst true (.pair (.int .i64) (.pair (.int .i64) (.pair (.int .i64) (.pair (.int .i64) .unit))))), 32), (27, (.pair (.pair .str (.pair (.int .i64) (.pair (.lst true (.pair .str (.pair (.int .i64) (.pair (.int .i64) (.pair .str .unit))))) .unit))) (.pair (.lst true (.pair (.int .i64) (.pair (.int .i64) (.pair (.int .i64) (.pair (.int .i64) .unit))))) (.pair (.int .i64) .unit))), 0), (33, (.lst true (.pair .str (.pair (.int .i64) (.pair (.int .i64) (.pair .str .unit))))), 48), (35, (.pair .str (.pair (.int .i64) (.pair (.lst true (.pair .str (.pair (.int .i64) (.pair (.int .i64) (.pair .str .unit))))) .unit))), 0), (36, (.lst true (.pair (.int .i64) (.pair (.int .i64) (.pair (.int .i64) (.pair (.int .i64) .unit))))), 32), (38, (.pair (.pair .str (.pair (.int .i64) (.pair (.lst true (.pair .str (.pair (.int .i64) (.pair (.int .i64) (.pair .str .unit))))) .unit))) (.pair (.lst true (.pair (.int .i64) (.pair (.int .i64) (.pair (.int .i64) (.pair (.int .i64) .unit))))) (.pair (.int .i64) .unit))), 0), (52, (.pair (.int .i64) (.pair (.int .i64) (.pair (.int .i64) (.pair (.int .i64) .unit)))), 0), (60, (.pair .str (.pair (.int .i64) (.pair (.int .i64) (.pair .str .unit)))), 0), (69, (.pair (.int .i64) (.pair (.int .i64) (.pair (.int .i64) (.pair (.int .i64) .unit)))), 0), (72, (.lst true .str), 16), (77, (.pair .str (.pair (.int .i64) (.pair (.int .i64) (.pair .str .unit)))), 0), (85, (.lst true (.int .u8)), 1), (110, (.int .u64), 0), (120, (.lst true (.int .i64)), 8), (136, .err, 0)]
theorem envC : ∀ sig n fx fr, EnvOk Tryz.prog ⟨tyOf tysC, ebOf tysC, sig, n, fx, fr⟩ := by
  refine EnvOk.ofL (fun sig n fx fr t ht => ?_) (by kernel_rfl)
  simp only [tysC, List.map_cons, List.map_nil, List.mem_cons] at ht
  rcases ht with rfl | ht
  · exact ⟨Tryz.underlying3, rfl, by kernel_rfl, by kernel_rfl⟩
  rcases ht with rfl | ht
  · exact ⟨Tryz.underlying4, rfl, by kernel_rfl, by kernel_rfl⟩
  rcases ht with rfl | ht
  · exact ⟨Tryz.underlying5, rfl, by kernel_rfl, by kernel_rfl⟩
  rcases ht with rfl | ht
  · exact ⟨Tryz.underlying9, rfl, by kernel_rfl, by kernel_rfl⟩
  rcases ht with rfl | ht
  · exact ⟨⟨rfl, _, Tryz.underlying22, rfl, rfl, by kernel_rfl⟩, rfl, by kernel_rfl, by kernel_rfl⟩
  rcases ht with rfl | ht
  · exact ⟨⟨_, Tryz.underlying24, rfl, rfl, rfl, rfl, rfl, rfl, rfl, rfl, rfl, trivial⟩, rfl, by kernel_rfl, by kernel_rfl⟩
  rcases ht with rfl | ht
  · exact ⟨⟨rfl, _, Tryz.underlying25, rfl, rfl, by kernel_rfl⟩, rfl, by kernel_rfl, by kernel_rfl⟩
  rcases ht with rfl | ht
  · exact ⟨⟨_, Tryz.underlying27, rfl, rfl, rfl, rfl, rfl, rfl, rfl, rfl, rfl, trivial⟩, rfl, by kernel_rfl, by kernel_rfl⟩
  rcases ht with rfl | ht
  · exact ⟨⟨rfl, _, Tryz.underlying33, rfl, rfl, by kernel_rfl⟩, rfl, by kernel_rfl, by kernel_rfl⟩
  rcases ht with rfl | ht
  · exact ⟨⟨_, Tryz.underlying35, rfl, rfl, rfl, rfl, rfl, rfl, rfl, rfl, rfl, trivial⟩, rfl, by kernel_rfl, by kernel_rfl⟩
  rcases ht with rfl | ht
  · exact ⟨⟨rfl, _, Tryz.underlying36, rfl, rfl, by kernel_rfl⟩, rfl, by kernel_rfl, by kernel_rfl⟩
  rcases ht with rfl | ht
  · exact ⟨⟨_, Tryz.underlying38, rfl, rfl, rfl, rfl, rfl, rfl, rfl, rfl, rfl, trivial⟩, rfl, by kernel_rfl, by kernel_rfl⟩
  rcases ht with rfl | ht
  · exact ⟨⟨_, Tryz.underlying52, rfl, rfl, rfl, rfl, rfl, rfl, rfl, rfl, rfl, rfl, rfl, rfl, trivial⟩, rfl, by kernel_rfl, by kernel_rfl⟩
  rcases ht with rfl | ht
  · exact ⟨⟨_, Tryz.underlying60, rfl, rfl, rfl, rfl, rfl, rfl, rfl, rfl, rfl, rfl, rfl, rfl, trivial⟩, rfl, by kernel_rfl, by kernel_rfl⟩
  rcases ht with rfl | ht
  · exact ⟨⟨_, Tryz.underlying69, rfl, rfl, rfl, rfl, rfl, rfl, rfl, rfl, rfl, rfl, rfl, rfl, trivial⟩, rfl, by kernel_rfl, by kernel_rfl⟩
  rcases ht with rfl | ht
  · exact ⟨⟨rfl, _, Tryz.underlying72, rfl, rfl, by kernel_rfl⟩, rfl, by kernel_rfl, by kernel_rfl⟩
  rcases ht with rfl | ht
  · exact ⟨⟨_, Tryz.underlying77, rfl, rfl, rfl, rfl, rfl, rfl, rfl, rfl, rfl, rfl, rfl, rfl, trivial⟩, rfl, by kernel_rfl, by kernel_rfl⟩
  rcases ht with rfl | ht
  · exact ⟨⟨rfl, _, Tryz.underlying85, rfl, rfl, by kernel_rfl⟩, rfl, by kernel_rfl, by kernel_rfl⟩
  rcases ht with rfl | ht
  · exact ⟨Tryz.underlying110, rfl, by kernel_rfl, by kernel_rfl⟩
  rcases ht with rfl | ht
  · exact ⟨⟨rfl, _, Tryz.underlying120, rfl, rfl, by kernel_rfl⟩, rfl, by kernel_rfl, by kernel_rfl⟩
  rcases ht with rfl | ht
  · exact ⟨⟨_, Tryz.underlying136⟩, rfl, by kernel_rfl, by kernel_rfl⟩
  cases ht

/-- loop.example/g00300/spec.l1Split -/
def h_spec_l1Split : List (Nat × Hint) := [(122, .loop ⟨[0, 1], [(5, 0, (.lst true .str)), (6, 0, (.int .i64)), (7, 0, (.int .i64))]⟩ [(2, ⟨[0], [(5, 0, (.lst true .str)), (6, 0, (.int .i64))]⟩)]), (489, .join [(0, ⟨[0, 1, 7], [(5, 0, (.lst true .str)), (6, 0, (.int .i64))]⟩)])]
noncomputable def p_spec_l1Split : PE := (comp tysC [] h_spec_l1Split Tryz.f61 [(.vw, .str), (.vw, (.int .u8))] true (.lst true .str)).getD .bot
noncomputable def e_spec_l1Split : Ent := ⟨61, [(.vw, .str), (.vw, (.int .u8))], true, (.lst true .str), runPE [] p_spec_l1Split⟩
theorem ok_spec_l1Split : e_spec_l1Split.Ok Tryz.prog := Ent.ok_of (pe := p_spec_l1Split) (fn := Tryz.f61) (hs := h_spec_l1Split) envC ok_nil Tryz.func61 (by decide +kernel) (some_getD (d := PE.bot) (by kernel_rfl)) rfl

/-- loop.example/g00300/spec.l1In -/
def h_spec_l1In : List (Nat × Hint) := [(3, .join [(0, ⟨[], [(6, 0, .bool)]⟩)])]
noncomputable def p_spec_l1In : PE := (comp tysC [] h_spec_l1In Tryz.f25 [(.vw, (.int .i64)), (.vw, (.int .i64)), (.vw, (.int .i64))] true .bool).getD .bot
noncomputable def e_spec_l1In : Ent := ⟨25, [(.vw, (.int .i64)), (.vw, (.int .i64)), (.vw, (.int .i64))], true, .bool, runPE [] p_spec_l1In⟩
theorem ok_spec_l1In : e_spec_l1In.Ok Tryz.prog := Ent.ok_of (pe := p_spec_l1In) (fn := Tryz.f25) (hs := h_spec_l1In) envC ok_nil Tryz.func25 (by decide +kernel) (some_getD (d := PE.bot) (by kernel_rfl)) rfl

/-- loop.example/g00300/spec.l1Label -/
def h_spec_l1Label : List (Nat × Hint) := [(58, .loop ⟨[0], [(3, 0, (.int .i64))]⟩ [(1, ⟨[2], []⟩), (2, ⟨[0], []⟩)]), (1865, .join [(0, ⟨[0, 3], [(38, 0, .bool)]⟩)])]
noncomputable def p_spec_l1Label : PE := (comp tysC [e_spec_l1In] h_spec_l1Label Tryz.f62 [(.vw, .str)] true .bool).getD .bot
noncomputable def e_spec_l1Label : Ent := ⟨62, [(.vw, .str)], true, .bool, runPE [e_spec_l1In] p_spec_l1Label⟩
theorem ok_spec_l1Label : e_spec_l1Label.Ok Tryz.prog := Ent.ok_of (pe := p_spec_l1Label) (fn := Tryz.f62) (hs := h_spec_l1Label) envC (ok_cons ok_spec_l1In ok_nil) Tryz.func62 (by decide +kernel) (some_getD (d := PE.bot) (by kernel_rfl)) rfl

/-- loop.example/g00300/spec.l1Labels -/
def h_spec_l1Labels : List (Nat × Hint) := [(31, .join [(0, ⟨[], [(2, 0, (.lst true .str)), (3, 0, .bool)]⟩)]), (122, .loop ⟨[0, 4, 11, 12], [(13, 0, (.int .i64))]⟩ [(1, ⟨[2, 3], []⟩), (2, ⟨[0, 4], []⟩)])]
noncomputable def p_spec_l1Labels : PE := (comp tysC [e_spec_l1Split, e_spec_l1Label] h_spec_l1Labels Tryz.f48 [(.vw, .str)] false (.pair (.lst true .str) (.pair .bool .unit))).getD .bot
noncomputable def e_spec_l1Labels : Ent := ⟨48, [(.vw, .str)], false, (.pair (.lst true .str) (.pair .bool .unit)), runPE [e_spec_l1Split, e_spec_l1Label] p_spec_l1Labels⟩
theorem ok_spec_l1Labels : e_spec_l1Labels.Ok Tryz.prog := Ent.ok_of (pe := p_spec_l1Labels) (fn := Tryz.f48) (hs := h_spec_l1Labels) envC (ok_cons ok_spec_l1Split (ok_cons ok_spec_l1Label ok_nil)) Tryz.func48 (by decide +kernel) (some_getD (d := PE.bot) (by kernel_rfl)) rfl

/-- loop.example/g00300/spec.l6Apex -/
def h_spec_l6Apex : List (Nat × Hint) := [(58, .loop ⟨[3, 12, 13], [(4, 0, .bool), (14, 0, (.int .i64))]⟩ [(2, ⟨[], [(4, 0, .bool)]⟩)]), (467, .join [(0, ⟨[3, 12, 13, 14], [(4, 0, .bool)]⟩)])]
noncomputable def p_spec_l6Apex : PE := (comp tysC [e_spec_l1Labels] h_spec_l6Apex Tryz.f34 [(.vw, .str)] true .bool).getD .bot
noncomputable def e_spec_l6Apex : Ent := ⟨34, [(.vw, .str)], true, .bool, runPE [e_spec_l1Labels] p_spec_l6Apex⟩
theorem ok_spec_l6Apex : e_spec_l6Apex.Ok Tryz.prog := Ent.ok_of (pe := p_spec_l6Apex) (fn := Tryz.f34) (hs := h_spec_l6Apex) envC (ok_cons ok_spec_l1Labels ok_nil) Tryz.func34 (by decide +kernel) (some_getD (d := PE.bot) (by kernel_rfl)) rfl

/-- loop.example/g00300/spec.NewZone -/
def h_spec_NewZone : List (Nat × Hint) := []
noncomputable def p_spec_NewZone : PE := (comp tysC [e_spec_l6Apex] h_spec_NewZone Tryz.f14 [(.vw, .str)] false (.pair (.pair .str (.pair (.int .i64) (.pair (.lst true (.pair .str (.pair (.int .i64) (.pair (.int .i64) (.pair .str .unit))))) .unit))) (.pair .bool .unit))).getD .bot
noncomputable def e_spec_NewZone : Ent := ⟨14, [(.vw, .str)], false, (.pair (.pair .str (.pair (.int .i64) (.pair (.lst true (.pair .str (.pair (.int .i64) (.pair (.int .i64) (.pair .str .unit))))) .unit))) (.pair .bool .unit)), runPE [e_spec_l6Apex] p_spec_NewZone⟩
theorem ok_spec_NewZone : e_spec_NewZone.Ok Tryz.prog := Ent.ok_of (pe := p_spec_NewZone) (fn := Tryz.f14) (hs := h_spec_NewZone) envC (ok_cons ok_spec_l6Apex ok_nil) Tryz.func14 (by decide +kernel) (some_getD (d := PE.bot) (by kernel_rfl)) rfl

/-- loop.example/g00300/spec.NewControl -/
def h_spec_NewControl : List (Nat × Hint) := []
noncomputable def p_spec_NewControl : PE := (comp tysC [e_spec_NewZone] h_spec_NewControl Tryz.f5 [(.vw, .str)] false (.pair (.pair (.pair .str (.pair (.int .i64) (.pair (.lst true (.pair .str (.pair (.int .i64) (.pair (.int .i64) (.pair .str .unit))))) .unit))) (.pair (.lst true (.pair (.int .i64) (.pair (.int .i64) (.pair (.int .i64) (.pair (.int .i64) .unit))))) (.pair (.int .i64) .unit))) (.pair .bool .unit))).getD .bot
noncomputable def e_spec_NewControl : Ent := ⟨5, [(.vw, .str)], false, (.pair (.pair (.pair .str (.pair (.int .i64) (.pair (.lst true (.pair .str (.pair (.int .i64) (.pair (.int .i64) (.pair .str .unit))))) .unit))) (.pair (.lst true (.pair (.int .i64) (.pair (.int .i64) (.pair (.int .i64) (.pair (.int .i64) .unit))))) (.pair (.int .i64) .unit))) (.pair .bool .unit)), runPE [e_spec_NewZone] p_spec_NewControl⟩
theorem ok_spec_NewControl : e_spec_NewControl.Ok Tryz.prog := Ent.ok_of (pe := p_spec_NewControl) (fn := Tryz.f5) (hs := h_spec_NewControl) envC (ok_cons ok_spec_NewZone ok_nil) Tryz.func5 (by decide +kernel) (some_getD (d := PE.bot) (by kernel_rfl)) rfl

/-- loop.example/g00300/impl.within -/
def h_impl_within : List (Nat × Hint) := [(3, .join [(0, ⟨[], [(6, 0, .bool)]⟩)])]
noncomputable def p_impl_within : PE := (comp tysC [] h_impl_within Tryz.f31 [(.vw, (.int .i64)), (.vw, (.int .i64)), (.vw, (.int .i64))] true .bool).getD .bot
noncomputable def e_impl_within : Ent := ⟨31, [(.vw, (.int .i64)), (.vw, (.int .i64)), (.vw, (.int .i64))], true, .bool, runPE [] p_impl_within⟩
theorem ok_impl_within : e_impl_within.Ok Tryz.prog := Ent.ok_of (pe := p_impl_within) (fn := Tryz.f31) (hs := h_impl_within) envC ok_nil Tryz.func31 (by decide +kernel) (some_getD (d := PE.bot) (by kernel_rfl)) rfl

/-- loop.example/g00300/impl.isCounter -/
def h_impl_isCounter : List (Nat × Hint) := []
noncomputable def p_impl_isCounter : PE := (comp tysC [e_impl_within] h_impl_isCounter Tryz.f44 [(.vw, (.int .i64))] true .bool).getD .bot
noncomputable def e_impl_isCounter : Ent := ⟨44, [(.vw, (.int .i64))], true, .bool, runPE [e_impl_within] p_impl_isCounter⟩
theorem ok_impl_isCounter : e_impl_isCounter.Ok Tryz.prog := Ent.ok_of (pe := p_impl_isCounter) (fn := Tryz.f44) (hs := h_impl_isCounter) envC (ok_cons ok_impl_within ok_nil) Tryz.func44 (by decide +kernel) (some_getD (d := PE.bot) (by kernel_rfl)) rfl

/-- strings.Split -/
noncomputable abbrev e_strings_Split : Ent := splitE 106
theorem ok_strings_Split : e_strings_Split.Ok Tryz.prog := splitE_ok Tryz.l146 (by kernel_rfl) Tryz.func106 (by decide +kernel) rfl glbMaxLen

/-- loop.example/g00300/impl.labelsOf -/
def h_impl_labelsOf : List (Nat × Hint) := []
noncomputable def p_impl_labelsOf : PE := (comp tysC [e_strings_Split] h_impl_labelsOf Tryz.f90 [(.vw, .str)] true (.lst true .str)).getD .bot
noncomputable def e_impl_labelsOf : Ent := ⟨90, [(.vw, .str)], true, (.lst true .str), runPE [e_strings_Split] p_impl_labelsOf⟩
theorem ok_impl_labelsOf : e_impl_labelsOf.Ok Tryz.prog := Ent.ok_of (pe := p_impl_labelsOf) (fn := Tryz.f90) (hs := h_impl_labelsOf) envC (ok_cons ok_strings_Split ok_nil) Tryz.func90 (by decide +kernel) (some_getD (d := PE.bot) (by kernel_rfl)) rfl

/-- strings.Trim -/
noncomputable abbrev e_strings_Trim : Ent := trimE 108
theorem ok_strings_Trim : e_strings_Trim.Ok Tryz.prog := trimE_ok Tryz.l160 (by kernel_rfl) (by kernel_rfl) Tryz.func108 (by decide +kernel) rfl

/-- loop.example/g00300/impl.isLabel -/
def h_impl_isLabel : List (Nat × Hint) := [(7, .join [(0, ⟨[], [(2, 0, .bool)]⟩)])]
noncomputable def p_impl_isLabel : PE := (comp tysC [e_impl_within, e_strings_Trim] h_impl_isLabel Tryz.f93 [(.vw, .str)] true .bool).getD .bot
noncomputable def e_impl_isLabel : Ent := ⟨93, [(.vw, .str)], true, .bool, runPE [e_impl_within, e_strings_Trim] p_impl_isLabel⟩
theorem ok_impl_isLabel : e_impl_isLabel.Ok Tryz.prog := Ent.ok_of (pe := p_impl_isLabel) (fn := Tryz.f93) (hs := h_impl_isLabel) envC (ok_cons ok_impl_within (ok_cons ok_strings_Trim ok_nil)) Tryz.func93 (by decide +kernel) (some_getD (d := PE.bot) (by kernel_rfl)) rfl

/-- loop.example/g00300/impl.GoodName$1 -/
def h_impl_GoodName_1 : List (Nat × Hint) := []
noncomputable def p_impl_GoodName_1 : PE := (comp tysC [e_impl_isLabel] h_impl_GoodName_1 Tryz.f92 [(.vw, .str)] true .bool).getD .bot
noncomputable def e_impl_GoodName_1 : Ent := ⟨92, [(.vw, .str)], true, .bool, runPE [e_impl_isLabel] p_impl_GoodName_1⟩
theorem ok_impl_GoodName_1 : e_impl_GoodName_1.Ok Tryz.prog := Ent.ok_of (pe := p_impl_GoodName_1) (fn := Tryz.f92) (hs := h_impl_GoodName_1) envC (ok_cons ok_impl_isLabel ok_nil) Tryz.func92 (by decide +kernel) (some_getD (d := PE.bot) (by kernel_rfl)) rfl

/-- slices.IndexFunc[[]string,string] -/
def h_slices_IndexFunc_string_string__impl_GoodName_1 : List (Nat × Hint) := [(26, .loop ⟨[0, 1, 7], [(8, 0, (.int .i64))]⟩ [(1, ⟨[], [(4, 0, (.int .i64))]⟩), (2, ⟨[], []⟩)])]
noncomputable def p_slices_IndexFunc_string_string__impl_GoodName_1 : PE := (comp tysC [e_impl_GoodName_1] h_slices_IndexFunc_string_string__impl_GoodName_1 Tryz.f107 [(.vw, (.lst false .str)), (.vw, (.fn 92 .unit))] true (.int .i64)).getD .bot
noncomputable def e_slices_IndexFunc_string_string__impl_GoodName_1 : Ent := ⟨107, [(.vw, (.lst false .str)), (.vw, (.fn 92 .unit))], true, (.int .i64), runPE [e_impl_GoodName_1] p_slices_IndexFunc_string_string__impl_GoodName_1⟩
theorem ok_slices_IndexFunc_string_string__impl_GoodName_1 : e_slices_IndexFunc_string_string__impl_GoodName_1.Ok Tryz.prog := Ent.ok_of (pe := p_slices_IndexFunc_string_string__impl_GoodName_1) (fn := Tryz.f107) (hs := h_slices_IndexFunc_string_string__impl_GoodName_1) envC (ok_cons ok_impl_GoodName_1 ok_nil) Tryz.func107 (by decide +kernel) (some_getD (d := PE.bot) (by kernel_rfl)) rfl

/-- slices.ContainsFunc[[]string,string] -/
def h_slices_ContainsFunc_string_string__impl_GoodName_1 : List (Nat × Hint) := []
noncomputable def p_slices_ContainsFunc_string_string__impl_GoodName_1 : PE := (comp tysC [e_slices_IndexFunc_string_string__impl_GoodName_1] h_slices_ContainsFunc_string_string__impl_GoodName_1 Tryz.f91 [(.vw, (.lst false .str)), (.vw, (.fn 92 .unit))] true .bool).getD .bot
noncomputable def e_slices_ContainsFunc_string_string__impl_GoodName_1 : Ent := ⟨91, [(.vw, (.lst false .str)), (.vw, (.fn 92 .unit))], true, .bool, runPE [e_slices_IndexFunc_string_string__impl_GoodName_1] p_slices_ContainsFunc_string_string__impl_GoodName_1⟩
theorem ok_slices_ContainsFunc_string_string__impl_GoodName_1 : e_slices_ContainsFunc_string_string__impl_GoodName_1.Ok Tryz.prog := Ent.ok_of (pe := p_slices_ContainsFunc_string_string__impl_GoodName_1) (fn := Tryz.f91) (hs := h_slices_ContainsFunc_string_string__impl_GoodName_1) envC (ok_cons ok_slices_IndexFunc_string_string__impl_GoodName_1 ok_nil) Tryz.func91 (by decide +kernel) (some_getD (d := PE.bot) (by kernel_rfl)) rfl

/-- loop.example/g00300/impl.GoodName -/
def h_impl_GoodName : List (Nat × Hint) := [(15, .join [(0, ⟨[], [(2, 0, .bool)]⟩)])]
noncomputable def p_impl_GoodName : PE := (comp tysC [e_impl_labelsOf, e_slices_ContainsFunc_string_string__impl_GoodName_1] h_impl_GoodName Tryz.f80 [(.vw, .str)] true .bool).getD .bot
noncomputable def e_impl_GoodName : Ent := ⟨80, [(.vw, .str)], true, .bool, runPE [e_impl_labelsOf, e_slices_ContainsFunc_string_string__impl_GoodName_1] p_impl_GoodName⟩
theorem ok_impl_GoodName : e_impl_GoodName.Ok Tryz.prog := Ent.ok_of (pe := p_impl_GoodName) (fn := Tryz.f80) (hs := h_impl_GoodName) envC (ok_cons ok_impl_labelsOf (ok_cons ok_slices_ContainsFunc_string_string__impl_GoodName_1 ok_nil)) Tryz.func80 (by decide +kernel) (some_getD (d := PE.bot) (by kernel_rfl)) rfl

/-- strings.Contains -/
noncomputable abbrev e_strings_Contains : Ent := containsE 81
theorem ok_strings_Contains : e_strings_Contains.Ok Tryz.prog := containsE_ok Tryz.l144 (by kernel_rfl) Tryz.func81 (by decide +kernel) rfl glbMaxLen

/-- loop.example/g00300/impl.isApex -/
def h_impl_isApex : List (Nat × Hint) := [(3, .join [(0, ⟨[], [(2, 0, .bool)]⟩)])]
noncomputable def p_impl_isApex : PE := (comp tysC [e_impl_GoodName, e_strings_Contains] h_impl_isApex Tryz.f68 [(.vw, .str)] true .bool).getD .bot
noncomputable def e_impl_isApex : Ent := ⟨68, [(.vw, .str)], true, .bool, runPE [e_impl_GoodName, e_strings_Contains] p_impl_isApex⟩
theorem ok_impl_isApex : e_impl_isApex.Ok Tryz.prog := Ent.ok_of (pe := p_impl_isApex) (fn := Tryz.f68) (hs := h_impl_isApex) envC (ok_cons ok_impl_GoodName (ok_cons ok_strings_Contains ok_nil)) Tryz.func68 (by decide +kernel) (some_getD (d := PE.bot) (by kernel_rfl)) rfl

/-- strconv.Atoi -/
noncomputable abbrev e_strconv_Atoi : Ent := atoiE 137
theorem ok_strconv_Atoi : e_strconv_Atoi.Ok Tryz.prog := atoiE_ok Tryz.l172 (by kernel_rfl) Tryz.func137 (by decide +kernel) rfl glbSyn glbRng

/-- strconv.Itoa -/
noncomputable abbrev e_strconv_Itoa : Ent := itoaE 60
theorem ok_strconv_Itoa : e_strconv_Itoa.Ok Tryz.prog := itoaE_ok Tryz.l171 (by kernel_rfl) Tryz.func60 (by decide +kernel) rfl (by kernel_rfl) glbPow

/-- loop.example/g00300/impl.numberIn -/
def h_impl_numberIn : List (Nat × Hint) := [(7, .join [(0, ⟨[], [(4, 0, (.int .i64)), (5, 0, .bool)]⟩)])]
noncomputable def p_impl_numberIn : PE := (comp tysC [e_strconv_Atoi, e_impl_within, e_strconv_Itoa] h_impl_numberIn Tryz.f110 [(.vw, .str), (.vw, (.int .i64))] false (.pair (.int .i64) (.pair .bool .unit))).getD .bot
noncomputable def e_impl_numberIn : Ent := ⟨110, [(.vw, .str), (.vw, (.int .i64))], false, (.pair (.int .i64) (.pair .bool .unit)), runPE [e_strconv_Atoi, e_impl_within, e_strconv_Itoa] p_impl_numberIn⟩
theorem ok_impl_numberIn : e_impl_numberIn.Ok Tryz.prog := Ent.ok_of (pe := p_impl_numberIn) (fn := Tryz.f110) (hs := h_impl_numberIn) envC (ok_cons ok_strconv_Atoi (ok_cons ok_impl_within (ok_cons ok_strconv_Itoa ok_nil))) Tryz.func110 (by decide +kernel) (some_getD (d := PE.bot) (by kernel_rfl)) rfl

/-- loop.example/g00300/impl.big -/
def h_impl_big : List (Nat × Hint) := [(58, .loop ⟨[0], [(5, 0, (.lst true (.int .u8))), (6, 0, (.int .i64))]⟩ [(2, ⟨[], [(5, 0, (.lst true (.int .u8)))]⟩)])]
noncomputable def p_impl_big : PE := (comp tysC [] h_impl_big Tryz.f111 [(.vw, (.int .i64)), (.vw, (.int .i64))] true .str).getD .bot
noncomputable def e_impl_big : Ent := ⟨111, [(.vw, (.int .i64)), (.vw, (.int .i64))], true, .str, runPE [] p_impl_big⟩
theorem ok_impl_big : e_impl_big.Ok Tryz.prog := Ent.ok_of (pe := p_impl_big) (fn := Tryz.f111) (hs := h_impl_big) envC ok_nil Tryz.func111 (by decide +kernel) (some_getD (d := PE.bot) (by kernel_rfl)) rfl

/-- loop.example/g00300/impl.isTarget -/
def h_impl_isTarget : List (Nat × Hint) := [(3, .join [(0, ⟨[], [(2, 0, .bool)]⟩)])]
noncomputable def p_impl_isTarget : PE := (comp tysC [e_impl_GoodName, e_strings_Contains] h_impl_isTarget Tryz.f112 [(.vw, .str)] true .bool).getD .bot
noncomputable def e_impl_isTarget : Ent := ⟨112, [(.vw, .str)], true, .bool, runPE [e_impl_GoodName, e_strings_Contains] p_impl_isTarget⟩
theorem ok_impl_isTarget : e_impl_isTarget.Ok Tryz.prog := Ent.ok_of (pe := p_impl_isTarget) (fn := Tryz.f112) (hs := h_impl_isTarget) envC (ok_cons ok_impl_GoodName (ok_cons ok_strings_Contains ok_nil)) Tryz.func112 (by decide +kernel) (some_getD (d := PE.bot) (by kernel_rfl)) rfl

/-- loop.example/g00300/impl.labelBytes -/
def h_impl_labelBytes : List (Nat × Hint) := [(58, .loop ⟨[7, 8], [(3, 0, .str), (9, 0, (.int .i64))]⟩ [(2, ⟨[], [(3, 0, .str)]⟩)])]
noncomputable def p_impl_labelBytes : PE := (comp tysC [e_impl_labelsOf] h_impl_labelBytes Tryz.f113 [(.vw, .str)] true .str).getD .bot
noncomputable def e_impl_labelBytes : Ent := ⟨113, [(.vw, .str)], true, .str, runPE [e_impl_labelsOf] p_impl_labelBytes⟩
theorem ok_impl_labelBytes : e_impl_labelBytes.Ok Tryz.prog := Ent.ok_of (pe := p_impl_labelBytes) (fn := Tryz.f113) (hs := h_impl_labelBytes) envC (ok_cons ok_impl_labelsOf ok_nil) Tryz.func113 (by decide +kernel) (some_getD (d := PE.bot) (by kernel_rfl)) rfl

/-- strings.Cut -/
noncomputable abbrev e_strings_Cut : Ent := cutE 114
theorem ok_strings_Cut : e_strings_Cut.Ok Tryz.prog := cutE_ok Tryz.l145 (by kernel_rfl) Tryz.func114 (by decide +kernel) rfl glbMaxLen

/-- loop.example/g00300/impl.DataBytes$1 -/
def h_impl_DataBytes_1 : List (Nat × Hint) := [(3, .join [(0, ⟨[], [(2, 0, .bool)]⟩)])]
noncomputable def p_impl_DataBytes_1 : PE := (comp tysC [] h_impl_DataBytes_1 Tryz.f116 [(.vw, (.int .u8))] true .bool).getD .bot
noncomputable def e_impl_DataBytes_1 : Ent := ⟨116, [(.vw, (.int .u8))], true, .bool, runPE [] p_impl_DataBytes_1⟩
theorem ok_impl_DataBytes_1 : e_impl_DataBytes_1.Ok Tryz.prog := Ent.ok_of (pe := p_impl_DataBytes_1) (fn := Tryz.f116) (hs := h_impl_DataBytes_1) envC ok_nil Tryz.func116 (by decide +kernel) (some_getD (d := PE.bot) (by kernel_rfl)) rfl

/-- slices.IndexFunc[[]byte,byte] -/
def h_slices_IndexFunc_byte_byte__impl_DataBytes_1 : List (Nat × Hint) := [(26, .loop ⟨[0, 1, 7], [(8, 0, (.int .i64))]⟩ [(1, ⟨[], [(4, 0, (.int .i64))]⟩), (2, ⟨[], []⟩)])]
noncomputable def p_slices_IndexFunc_byte_byte__impl_DataBytes_1 : PE := (comp tysC [e_impl_DataBytes_1] h_slices_IndexFunc_byte_byte__impl_DataBytes_1 Tryz.f139 [(.vw, (.lst false (.int .u8))), (.vw, (.fn 116 .unit))] true (.int .i64)).getD .bot
noncomputable def e_slices_IndexFunc_byte_byte__impl_DataBytes_1 : Ent := ⟨139, [(.vw, (.lst false (.int .u8))), (.vw, (.fn 116 .unit))], true, (.int .i64), runPE [e_impl_DataBytes_1] p_slices_IndexFunc_byte_byte__impl_DataBytes_1⟩
theorem ok_slices_IndexFunc_byte_byte__impl_DataBytes_1 : e_slices_IndexFunc_byte_byte__impl_DataBytes_1.Ok Tryz.prog := Ent.ok_of (pe := p_slices_IndexFunc_byte_byte__impl_DataBytes_1) (fn := Tryz.f139) (hs := h_slices_IndexFunc_byte_byte__impl_DataBytes_1) envC (ok_cons ok_impl_DataBytes_1 ok_nil) Tryz.func139 (by decide +kernel) (some_getD (d := PE.bot) (by kernel_rfl)) rfl

/-- slices.ContainsFunc[[]byte,byte] -/
def h_slices_ContainsFunc_byte_byte__impl_DataBytes_1 : List (Nat × Hint) := []
noncomputable def p_slices_ContainsFunc_byte_byte__impl_DataBytes_1 : PE := (comp tysC [e_slices_IndexFunc_byte_byte__impl_DataBytes_1] h_slices_ContainsFunc_byte_byte__impl_DataBytes_1 Tryz.f115 [(.vw, (.lst false (.int .u8))), (.vw, (.fn 116 .unit))] true .bool).getD .bot
noncomputable def e_slices_ContainsFunc_byte_byte__impl_DataBytes_1 : Ent := ⟨115, [(.vw, (.lst false (.int .u8))), (.vw, (.fn 116 .unit))], true, .bool, runPE [e_slices_IndexFunc_byte_byte__impl_DataBytes_1] p_slices_ContainsFunc_byte_byte__impl_DataBytes_1⟩
theorem ok_slices_ContainsFunc_byte_byte__impl_DataBytes_1 : e_slices_ContainsFunc_byte_byte__impl_DataBytes_1.Ok Tryz.prog := Ent.ok_of (pe := p_slices_ContainsFunc_byte_byte__impl_DataBytes_1) (fn := Tryz.f115) (hs := h_slices_ContainsFunc_byte_byte__impl_DataBytes_1) envC (ok_cons ok_slices_IndexFunc_byte_byte__impl_DataBytes_1 ok_nil) Tryz.func115 (by decide +kernel) (some_getD (d := PE.bot) (by kernel_rfl)) rfl

/-- loop.example/g00300/impl.DataBytes -/
def h_impl_DataBytes : List (Nat × Hint) := [(55292, .join [(0, ⟨[1], [(103, 0, .bool)]⟩)]), (55286, .join [(0, ⟨[15, 17], [(87, 0, .bool)]⟩)]), (107, .join [(0, ⟨[1, 19], [(48, 0, .bool)]⟩)]), (3418, .loop ⟨[7, 24, 25], [(6, 0, .str), (26, 0, (.int .i64))]⟩ [(1, ⟨[4, 5], []⟩), (3, ⟨[], [(6, 0, .str)]⟩)]), (875110, .join [(0, ⟨[6, 7, 10, 24, 25, 26], [(41, 0, .bool)]⟩)])]
noncomputable def p_impl_DataBytes : PE := (comp tysC [e_strings_Split, e_impl_numberIn, e_impl_big, e_impl_isTarget, e_impl_labelBytes, e_strings_Cut, e_slices_ContainsFunc_byte_byte__impl_DataBytes_1] h_impl_DataBytes Tryz.f95 [(.vw, (.int .i64)), (.vw, .str)] false (.pair .str (.pair .bool .unit))).getD .bot
noncomputable def e_impl_DataBytes : Ent := ⟨95, [(.vw, (.int .i64)), (.vw, .str)], false, (.pair .str (.pair .bool .unit)), runPE [e_strings_Split, e_impl_numberIn, e_impl_big, e_impl_isTarget, e_impl_labelBytes, e_strings_Cut, e_slices_ContainsFunc_byte_byte__impl_DataBytes_1] p_impl_DataBytes⟩
theorem ok_impl_DataBytes : e_impl_DataBytes.Ok Tryz.prog := Ent.ok_of (pe := p_impl_DataBytes) (fn := Tryz.f95) (hs := h_impl_DataBytes) envC (ok_cons ok_strings_Split (ok_cons ok_impl_numberIn (ok_cons ok_impl_big (ok_cons ok_impl_isTarget (ok_cons ok_impl_labelBytes (ok_cons ok_strings_Cut (ok_cons ok_slices_ContainsFunc_byte_byte__impl_DataBytes_1 ok_nil))))))) Tryz.func95 (by decide +kernel) (some_getD (d := PE.bot) (by kernel_rfl)) rfl

/-- loop.example/g00300/impl.GoodRecord -/
def h_impl_GoodRecord : List (Nat × Hint) := [(6, .join [(0, ⟨[1], [(20, 0, .bool)]⟩)])]
noncomputable def p_impl_GoodRecord : PE := (comp tysC [e_impl_GoodName, e_impl_within, e_impl_DataBytes] h_impl_GoodRecord Tryz.f82 [(.vw, (.pair .str (.pair (.int .i64) (.pair (.int .i64) (.pair .str .unit)))))] true .bool).getD .bot
noncomputable def e_impl_GoodRecord : Ent := ⟨82, [(.vw, (.pair .str (.pair (.int .i64) (.pair (.int .i64) (.pair .str .unit)))))], true, .bool, runPE [e_impl_GoodName, e_impl_within, e_impl_DataBytes] p_impl_GoodRecord⟩
theorem ok_impl_GoodRecord : e_impl_GoodRecord.Ok Tryz.prog := Ent.ok_of (pe := p_impl_GoodRecord) (fn := Tryz.f82) (hs := h_impl_GoodRecord) envC (ok_cons ok_impl_GoodName (ok_cons ok_impl_within (ok_cons ok_impl_DataBytes ok_nil))) Tryz.func82 (by decide +kernel) (some_getD (d := PE.bot) (by kernel_rfl)) rfl

/-- slices.Reverse[[]string,string] -/
def h_slices_Reverse_string_string : List (Nat × Hint) := [(6, .loop ⟨[], [(0, 0, (.lst true .str)), (2, 0, (.int .i64)), (3, 0, (.int .i64))]⟩ [(2, ⟨[], [(0, 0, (.lst true .str))]⟩)])]
noncomputable def p_slices_Reverse_string_string : PE := (comp tysC [] h_slices_Reverse_string_string Tryz.f140 [(.io, (.lst true .str))] false .unit).getD .bot
noncomputable def e_slices_Reverse_string_string : Ent := ⟨140, [(.io, (.lst true .str))], false, .unit, runPE [] p_slices_Reverse_string_string⟩
theorem ok_slices_Reverse_string_string : e_slices_Reverse_string_string.Ok Tryz.prog := Ent.ok_of (pe := p_slices_Reverse_string_string) (fn := Tryz.f140) (hs := h_slices_Reverse_string_string) envC ok_nil Tryz.func140 (by decide +kernel) (some_getD (d := PE.bot) (by kernel_rfl)) rfl

/-- cmp.isNaN[string] -/
def h_cmp_isNaN_string : List (Nat × Hint) := []
noncomputable def p_cmp_isNaN_string : PE := (comp tysC [] h_cmp_isNaN_string Tryz.f166 [(.vw, .str)] true .bool).getD .bot
noncomputable def e_cmp_isNaN_string : Ent := ⟨166, [(.vw, .str)], true, .bool, runPE [] p_cmp_isNaN_string⟩
theorem ok_cmp_isNaN_string : e_cmp_isNaN_string.Ok Tryz.prog := Ent.ok_of (pe := p_cmp_isNaN_string) (fn := Tryz.f166) (hs := h_cmp_isNaN_string) envC ok_nil Tryz.func166 (by decide +kernel) (some_getD (d := PE.bot) (by kernel_rfl)) rfl

/-- cmp.Compare[string] -/
def h_cmp_Compare_string : List (Nat × Hint) := []
noncomputable def p_cmp_Compare_string : PE := (comp tysC [e_cmp_isNaN_string] h_cmp_Compare_string Tryz.f155 [(.vw, .str), (.vw, .str)] true (.int .i64)).getD .bot
noncomputable def e_cmp_Compare_string : Ent := ⟨155, [(.vw, .str), (.vw, .str)], true, (.int .i64), runPE [e_cmp_isNaN_string] p_cmp_Compare_string⟩
theorem ok_cmp_Compare_string : e_cmp_Compare_string.Ok Tryz.prog := Ent.ok_of (pe := p_cmp_Compare_string) (fn := Tryz.f155) (hs := h_cmp_Compare_string) envC (ok_cons ok_cmp_isNaN_string ok_nil) Tryz.func155 (by decide +kernel) (some_getD (d := PE.bot) (by kernel_rfl)) rfl

/-- slices.Compare[[]string,string] -/
def h_slices_Compare_string_string : List (Nat × Hint) := [(26, .loop ⟨[0, 1, 9, 10], [(11, 0, (.int .i64))]⟩ [(1, ⟨[], [(4, 0, (.int .i64))]⟩), (2, ⟨[0, 1], []⟩)])]
noncomputable def p_slices_Compare_string_string : PE := (comp tysC [e_cmp_Compare_string] h_slices_Compare_string_string Tryz.f141 [(.vw, (.lst false .str)), (.vw, (.lst false .str))] true (.int .i64)).getD .bot
noncomputable def e_slices_Compare_string_string : Ent := ⟨141, [(.vw, (.lst false .str)), (.vw, (.lst false .str))], true, (.int .i64), runPE [e_cmp_Compare_string] p_slices_Compare_string_string⟩
theorem ok_slices_Compare_string_string : e_slices_Compare_string_string.Ok Tryz.prog := Ent.ok_of (pe := p_slices_Compare_string_string) (fn := Tryz.f141) (hs := h_slices_Compare_string_string) envC (ok_cons ok_cmp_Compare_string ok_nil) Tryz.func141 (by decide +kernel) (some_getD (d := PE.bot) (by kernel_rfl)) rfl

/-- loop.example/g00300/impl.compareNames -/
def h_impl_compareNames : List (Nat × Hint) := []
noncomputable def p_impl_compareNames : PE := (comp tysC [e_impl_labelsOf, e_slices_Reverse_string_string, e_slices_Compare_string_string] h_impl_compareNames Tryz.f117 [(.vw, .str), (.vw, .str)] true (.int .i64)).getD .bot
noncomputable def e_impl_compareNames : Ent := ⟨117, [(.vw, .str), (.vw, .str)], true, (.int .i64), runPE [e_impl_labelsOf, e_slices_Reverse_string_string, e_slices_Compare_string_string] p_impl_compareNames⟩
theorem ok_impl_compareNames : e_impl_compareNames.Ok Tryz.prog := Ent.ok_of (pe := p_impl_compareNames) (fn := Tryz.f117) (hs := h_impl_compareNames) envC (ok_cons ok_impl_labelsOf (ok_cons ok_slices_Reverse_string_string (ok_cons ok_slices_Compare_string_string ok_nil))) Tryz.func117 (by decide +kernel) (some_getD (d := PE.bot) (by kernel_rfl)) rfl

/-- cmp.isNaN[int] -/
def h_cmp_isNaN_int : List (Nat × Hint) := []
noncomputable def p_cmp_isNaN_int : PE := (comp tysC [] h_cmp_isNaN_int Tryz.f119 [(.vw, (.int .i64))] true .bool).getD .bot
noncomputable def e_cmp_isNaN_int : Ent := ⟨119, [(.vw, (.int .i64))], true, .bool, runPE [] p_cmp_isNaN_int⟩
theorem ok_cmp_isNaN_int : e_cmp_isNaN_int.Ok Tryz.prog := Ent.ok_of (pe := p_cmp_isNaN_int) (fn := Tryz.f119) (hs := h_cmp_isNaN_int) envC ok_nil Tryz.func119 (by decide +kernel) (some_getD (d := PE.bot) (by kernel_rfl)) rfl

/-- cmp.Compare[int] -/
def h_cmp_Compare_int : List (Nat × Hint) := []
noncomputable def p_cmp_Compare_int : PE := (comp tysC [e_cmp_isNaN_int] h_cmp_Compare_int Tryz.f100 [(.vw, (.int .i64)), (.vw, (.int .i64))] true (.int .i64)).getD .bot
noncomputable def e_cmp_Compare_int : Ent := ⟨100, [(.vw, (.int .i64)), (.vw, (.int .i64))], true, (.int .i64), runPE [e_cmp_isNaN_int] p_cmp_Compare_int⟩
theorem ok_cmp_Compare_int : e_cmp_Compare_int.Ok Tryz.prog := Ent.ok_of (pe := p_cmp_Compare_int) (fn := Tryz.f100) (hs := h_cmp_Compare_int) envC (ok_cons ok_cmp_isNaN_int ok_nil) Tryz.func100 (by decide +kernel) (some_getD (d := PE.bot) (by kernel_rfl)) rfl

/-- cmp.Or[int] -/
def h_cmp_Or_int : List (Nat × Hint) := [(58, .loop ⟨[3, 6, 7], [(8, 0, (.int .i64))]⟩ [(1, ⟨[], [(2, 0, (.int .i64))]⟩), (2, ⟨[3], []⟩)])]
noncomputable def p_cmp_Or_int : PE := (comp tysC [] h_cmp_Or_int Tryz.f96 [(.vw, (.lst false (.int .i64)))] true (.int .i64)).getD .bot
noncomputable def e_cmp_Or_int : Ent := ⟨96, [(.vw, (.lst false (.int .i64)))], true, (.int .i64), runPE [] p_cmp_Or_int⟩
theorem ok_cmp_Or_int : e_cmp_Or_int.Ok Tryz.prog := Ent.ok_of (pe := p_cmp_Or_int) (fn := Tryz.f96) (hs := h_cmp_Or_int) envC ok_nil Tryz.func96 (by decide +kernel) (some_getD (d := PE.bot) (by kernel_rfl)) rfl

/-- loop.example/g00300/impl.compareKeys -/
def h_impl_compareKeys : List (Nat × Hint) := []
noncomputable def p_impl_compareKeys : PE := (comp tysC [e_impl_compareNames, e_cmp_Compare_int, e_cmp_Or_int] h_impl_compareKeys Tryz.f97 [(.vw, (.pair .str (.pair (.int .i64) (.pair (.int .i64) (.pair .str .unit))))), (.vw, (.pair .str (.pair (.int .i64) (.pair (.int .i64) (.pair .str .unit)))))] true (.int .i64)).getD .bot
noncomputable def e_impl_compareKeys : Ent := ⟨97, [(.vw, (.pair .str (.pair (.int .i64) (.pair (.int .i64) (.pair .str .unit))))), (.vw, (.pair .str (.pair (.int .i64) (.pair (.int .i64) (.pair .str .unit)))))], true, (.int .i64), runPE [e_impl_compareNames, e_cmp_Compare_int, e_cmp_Or_int] p_impl_compareKeys⟩
theorem ok_impl_compareKeys : e_impl_compareKeys.Ok Tryz.prog := Ent.ok_of (pe := p_impl_compareKeys) (fn := Tryz.f97) (hs := h_impl_compareKeys) envC (ok_cons ok_impl_compareNames (ok_cons ok_cmp_Compare_int (ok_cons ok_cmp_Or_int ok_nil))) Tryz.func97 (by decide +kernel) (some_getD (d := PE.bot) (by kernel_rfl)) rfl

/-- loop.example/g00300/impl.dataBytes -/
def h_impl_dataBytes : List (Nat × Hint) := []
noncomputable def p_impl_dataBytes : PE := (comp tysC [e_impl_DataBytes] h_impl_dataBytes Tryz.f99 [(.vw, (.int .i64)), (.vw, .str)] true .str).getD .bot
noncomputable def e_impl_dataBytes : Ent := ⟨99, [(.vw, (.int .i64)), (.vw, .str)], true, .str, runPE [e_impl_DataBytes] p_impl_dataBytes⟩
theorem ok_impl_dataBytes : e_impl_dataBytes.Ok Tryz.prog := Ent.ok_of (pe := p_impl_dataBytes) (fn := Tryz.f99) (hs := h_impl_dataBytes) envC (ok_cons ok_impl_DataBytes ok_nil) Tryz.func99 (by decide +kernel) (some_getD (d := PE.bot) (by kernel_rfl)) rfl

/-- strings.Compare -/
noncomputable abbrev e_strings_Compare : Ent := compareE 98
theorem ok_strings_Compare : e_strings_Compare.Ok Tryz.prog := compareE_ok Tryz.l106 (by kernel_rfl) Tryz.func98 (by decide +kernel) rfl

/-- loop.example/g00300/impl.compareRecords -/
def h_impl_compareRecords : List (Nat × Hint) := []
noncomputable def p_impl_compareRecords : PE := (comp tysC [e_impl_compareKeys, e_impl_dataBytes, e_strings_Compare, e_cmp_Compare_int, e_cmp_Or_int] h_impl_compareRecords Tryz.f83 [(.vw, (.pair .str (.pair (.int .i64) (.pair (.int .i64) (.pair .str .unit))))), (.vw, (.pair .str (.pair (.int .i64) (.pair (.int .i64) (.pair .str .unit)))))] true (.int .i64)).getD .bot
noncomputable def e_impl_compareRecords : Ent := ⟨83, [(.vw, (.pair .str (.pair (.int .i64) (.pair (.int .i64) (.pair .str .unit))))), (.vw, (.pair .str (.pair (.int .i64) (.pair (.int .i64) (.pair .str .unit)))))], true, (.int .i64), runPE [e_impl_compareKeys, e_impl_dataBytes, e_strings_Compare, e_cmp_Compare_int, e_cmp_Or_int] p_impl_compareRecords⟩
theorem ok_impl_compareRecords : e_impl_compareRecords.Ok Tryz.prog := Ent.ok_of (pe := p_impl_compareRecords) (fn := Tryz.f83) (hs := h_impl_compareRecords) envC (ok_cons ok_impl_compareKeys (ok_cons ok_impl_dataBytes (ok_cons ok_strings_Compare (ok_cons ok_cmp_Compare_int (ok_cons ok_cmp_Or_int ok_nil))))) Tryz.func83 (by decide +kernel) (some_getD (d := PE.bot) (by kernel_rfl)) rfl

/-- loop.example/g00300/impl.areRising -/
def h_impl_areRising : List (Nat × Hint) := [(26, .loop ⟨[0, 5, 6], [(7, 0, (.int .i64))]⟩ [(1, ⟨[2], []⟩), (2, ⟨[], []⟩)]), (1689, .join [(0, ⟨[0, 5, 6, 7], [(28, 0, .bool)]⟩)])]
noncomputable def p_impl_areRising : PE := (comp tysC [e_impl_GoodRecord, e_impl_compareRecords] h_impl_areRising Tryz.f69 [(.vw, (.lst false (.pair .str (.pair (.int .i64) (.pair (.int .i64) (.pair .str .unit))))))] true .bool).getD .bot
noncomputable def e_impl_areRising : Ent := ⟨69, [(.vw, (.lst false (.pair .str (.pair (.int .i64) (.pair (.int .i64) (.pair .str .unit))))))], true, .bool, runPE [e_impl_GoodRecord, e_impl_compareRecords] p_impl_areRising⟩
theorem ok_impl_areRising : e_impl_areRising.Ok Tryz.prog := Ent.ok_of (pe := p_impl_areRising) (fn := Tryz.f69) (hs := h_impl_areRising) envC (ok_cons ok_impl_GoodRecord (ok_cons ok_impl_compareRecords ok_nil)) Tryz.func69 (by decide +kernel) (some_getD (d := PE.bot) (by kernel_rfl)) rfl

/-- loop.example/g00300/impl.isWhole -/
def h_impl_isWhole : List (Nat × Hint) := [(3, .join [(0, ⟨[], [(4, 0, .bool)]⟩)])]
noncomputable def p_impl_isWhole : PE := (comp tysC [e_impl_isApex, e_impl_areRising] h_impl_isWhole Tryz.f56 [(.vw, .str), (.vw, (.lst false (.pair .str (.pair (.int .i64) (.pair (.int .i64) (.pair .str .unit))))))] true .bool).getD .bot
noncomputable def e_impl_isWhole : Ent := ⟨56, [(.vw, .str), (.vw, (.lst false (.pair .str (.pair (.int .i64) (.pair (.int .i64) (.pair .str .unit))))))], true, .bool, runPE [e_impl_isApex, e_impl_areRising] p_impl_isWhole⟩
theorem ok_impl_isWhole : e_impl_isWhole.Ok Tryz.prog := Ent.ok_of (pe := p_impl_isWhole) (fn := Tryz.f56) (hs := h_impl_isWhole) envC (ok_cons ok_impl_isApex (ok_cons ok_impl_areRising ok_nil)) Tryz.func56 (by decide +kernel) (some_getD (d := PE.bot) (by kernel_rfl)) rfl

/-- internal/stringslite.HasSuffix -/
def h_internal_stringslite_HasSuffix : List (Nat × Hint) := [(3, .join [(0, ⟨[], [(4, 0, .bool)]⟩)])]
noncomputable def p_internal_stringslite_HasSuffix : PE := (comp tysC [] h_internal_stringslite_HasSuffix Tryz.f101 [(.vw, .str), (.vw, .str)] true .bool).getD .bot
noncomputable def e_internal_stringslite_HasSuffix : Ent := ⟨101, [(.vw, .str), (.vw, .str)], true, .bool, runPE [] p_internal_stringslite_HasSuffix⟩
theorem ok_internal_stringslite_HasSuffix : e_internal_stringslite_HasSuffix.Ok Tryz.prog := Ent.ok_of (pe := p_internal_stringslite_HasSuffix) (fn := Tryz.f101) (hs := h_internal_stringslite_HasSuffix) envC ok_nil Tryz.func101 (by decide +kernel) (some_getD (d := PE.bot) (by kernel_rfl)) rfl

/-- strings.HasSuffix -/
def h_strings_HasSuffix : List (Nat × Hint) := []
noncomputable def p_strings_HasSuffix : PE := (comp tysC [e_internal_stringslite_HasSuffix] h_strings_HasSuffix Tryz.f84 [(.vw, .str), (.vw, .str)] true .bool).getD .bot
noncomputable def e_strings_HasSuffix : Ent := ⟨84, [(.vw, .str), (.vw, .str)], true, .bool, runPE [e_internal_stringslite_HasSuffix] p_strings_HasSuffix⟩
theorem ok_strings_HasSuffix : e_strings_HasSuffix.Ok Tryz.prog := Ent.ok_of (pe := p_strings_HasSuffix) (fn := Tryz.f84) (hs := h_strings_HasSuffix) envC (ok_cons ok_internal_stringslite_HasSuffix ok_nil) Tryz.func84 (by decide +kernel) (some_getD (d := PE.bot) (by kernel_rfl)) rfl

/-- loop.example/g00300/impl.isBelow -/
def h_impl_isBelow : List (Nat × Hint) := [(3, .join [(0, ⟨[], [(4, 0, .bool)]⟩)])]
noncomputable def p_impl_isBelow : PE := (comp tysC [e_strings_HasSuffix] h_impl_isBelow Tryz.f71 [(.vw, .str), (.vw, .str)] true .bool).getD .bot
noncomputable def e_impl_isBelow : Ent := ⟨71, [(.vw, .str), (.vw, .str)], true, .bool, runPE [e_strings_HasSuffix] p_impl_isBelow⟩
theorem ok_impl_isBelow : e_impl_isBelow.Ok Tryz.prog := Ent.ok_of (pe := p_impl_isBelow) (fn := Tryz.f71) (hs := h_impl_isBelow) envC (ok_cons ok_strings_HasSuffix ok_nil) Tryz.func71 (by decide +kernel) (some_getD (d := PE.bot) (by kernel_rfl)) rfl

/-- loop.example/g00300/impl.at -/
def h_impl_at : List (Nat × Hint) := [(58, .loop ⟨[1, 2, 11, 12], [(7, 0, (.lst true (.pair .str (.pair (.int .i64) (.pair (.int .i64) (.pair .str .unit)))))), (13, 0, (.int .i64))]⟩ [(2, ⟨[], [(7, 0, (.lst true (.pair .str (.pair (.int .i64) (.pair (.int .i64) (.pair .str .unit))))))]⟩)]), (467, .join [(0, ⟨[1, 2, 11, 12, 13], [(7, 0, (.lst true (.pair .str (.pair (.int .i64) (.pair (.int .i64) (.pair .str .unit))))))]⟩)]), (3737, .join [(0, ⟨[1, 2, 7, 9, 11, 12, 13], [(30, 0, .bool)]⟩)]), (0, .frz [6])]
noncomputable def p_impl_at : PE := (comp tysC [] h_impl_at Tryz.f46 [(.vw, (.lst false (.pair .str (.pair (.int .i64) (.pair (.int .i64) (.pair .str .unit)))))), (.vw, .str), (.vw, (.int .i64))] true (.lst true (.pair .str (.pair (.int .i64) (.pair (.int .i64) (.pair .str .unit)))))).getD .bot
noncomputable def e_impl_at : Ent := ⟨46, [(.vw, (.lst false (.pair .str (.pair (.int .i64) (.pair (.int .i64) (.pair .str .unit)))))), (.vw, .str), (.vw, (.int .i64))], true, (.lst true (.pair .str (.pair (.int .i64) (.pair (.int .i64) (.pair .str .unit))))), runPE [] p_impl_at⟩
theorem ok_impl_at : e_impl_at.Ok Tryz.prog := Ent.ok_of (pe := p_impl_at) (fn := Tryz.f46) (hs := h_impl_at) envC ok_nil Tryz.func46 (by decide +kernel) (some_getD (d := PE.bot) (by kernel_rfl)) rfl

/-- loop.example/g00300/impl.breaks$1 -/
def h_impl_breaks_1 : List (Nat × Hint) := [(3, .join [(0, ⟨[], [(3, 0, .bool)]⟩)])]
noncomputable def p_impl_breaks_1 : PE := (comp tysC [] h_impl_breaks_1 Tryz.f72 [(.vw, (.pair .str (.pair (.int .i64) (.pair (.int .i64) (.pair .str .unit))))), (.vw, (.ptr (.pair .str (.pair (.int .i64) (.pair (.int .i64) (.pair .str .unit))))))] true .bool).getD .bot
noncomputable def e_impl_breaks_1 : Ent := ⟨72, [(.vw, (.pair .str (.pair (.int .i64) (.pair (.int .i64) (.pair .str .unit))))), (.vw, (.ptr (.pair .str (.pair (.int .i64) (.pair (.int .i64) (.pair .str .unit))))))], true, .bool, runPE [] p_impl_breaks_1⟩
theorem ok_impl_breaks_1 : e_impl_breaks_1.Ok Tryz.prog := Ent.ok_of (pe := p_impl_breaks_1) (fn := Tryz.f72) (hs := h_impl_breaks_1) envC ok_nil Tryz.func72 (by decide +kernel) (some_getD (d := PE.bot) (by kernel_rfl)) rfl

/-- slices.IndexFunc[[]loop.example/g00300/impl.Record,loop.example/g00300/impl.Record] -/
def h_slices_IndexFunc_impl_Record_impl_Record__impl_breaks_1 : List (Nat × Hint) := [(26, .loop ⟨[0, 1, 7], [(8, 0, (.int .i64))]⟩ [(1, ⟨[], [(4, 0, (.int .i64))]⟩), (2, ⟨[], []⟩)])]
noncomputable def p_slices_IndexFunc_impl_Record_impl_Record__impl_breaks_1 : PE := (comp tysC [e_impl_breaks_1] h_slices_IndexFunc_impl_Record_impl_Record__impl_breaks_1 Tryz.f70 [(.vw, (.lst false (.pair .str (.pair (.int .i64) (.pair (.int .i64) (.pair .str .unit)))))), (.vw, (.fn 72 (.pair (.ptr (.pair .str (.pair (.int .i64) (.pair (.int .i64) (.pair .str .unit))))) .unit)))] true (.int .i64)).getD .bot
noncomputable def e_slices_IndexFunc_impl_Record_impl_Record__impl_breaks_1 : Ent := ⟨70, [(.vw, (.lst false (.pair .str (.pair (.int .i64) (.pair (.int .i64) (.pair .str .unit)))))), (.vw, (.fn 72 (.pair (.ptr (.pair .str (.pair (.int .i64) (.pair (.int .i64) (.pair .str .unit))))) .unit)))], true, (.int .i64), runPE [e_impl_breaks_1] p_slices_IndexFunc_impl_Record_impl_Record__impl_breaks_1⟩
theorem ok_slices_IndexFunc_impl_Record_impl_Record__impl_breaks_1 : e_slices_IndexFunc_impl_Record_impl_Record__impl_breaks_1.Ok Tryz.prog := Ent.ok_of (pe := p_slices_IndexFunc_impl_Record_impl_Record__impl_breaks_1) (fn := Tryz.f70) (hs := h_slices_IndexFunc_impl_Record_impl_Record__impl_breaks_1) envC (ok_cons ok_impl_breaks_1 ok_nil) Tryz.func70 (by decide +kernel) (some_getD (d := PE.bot) (by kernel_rfl)) rfl

/-- slices.ContainsFunc[[]loop.example/g00300/impl.Record,loop.example/g00300/impl.Record] -/
def h_slices_ContainsFunc_impl_Record_impl_Record__impl_breaks_1 : List (Nat × Hint) := []
noncomputable def p_slices_ContainsFunc_impl_Record_impl_Record__impl_breaks_1 : PE := (comp tysC [e_slices_IndexFunc_impl_Record_impl_Record__impl_breaks_1] h_slices_ContainsFunc_impl_Record_impl_Record__impl_breaks_1 Tryz.f57 [(.vw, (.lst false (.pair .str (.pair (.int .i64) (.pair (.int .i64) (.pair .str .unit)))))), (.vw, (.fn 72 (.pair (.ptr (.pair .str (.pair (.int .i64) (.pair (.int .i64) (.pair .str .unit))))) .unit)))] true .bool).getD .bot
noncomputable def e_slices_ContainsFunc_impl_Record_impl_Record__impl_breaks_1 : Ent := ⟨57, [(.vw, (.lst false (.pair .str (.pair (.int .i64) (.pair (.int .i64) (.pair .str .unit)))))), (.vw, (.fn 72 (.pair (.ptr (.pair .str (.pair (.int .i64) (.pair (.int .i64) (.pair .str .unit))))) .unit)))], true, .bool, runPE [e_slices_IndexFunc_impl_Record_impl_Record__impl_breaks_1] p_slices_ContainsFunc_impl_Record_impl_Record__impl_breaks_1⟩
theorem ok_slices_ContainsFunc_impl_Record_impl_Record__impl_breaks_1 : e_slices_ContainsFunc_impl_Record_impl_Record__impl_breaks_1.Ok Tryz.prog := Ent.ok_of (pe := p_slices_ContainsFunc_impl_Record_impl_Record__impl_breaks_1) (fn := Tryz.f57) (hs := h_slices_ContainsFunc_impl_Record_impl_Record__impl_breaks_1) envC (ok_cons ok_slices_IndexFunc_impl_Record_impl_Record__impl_breaks_1 ok_nil) Tryz.func57 (by decide +kernel) (some_getD (d := PE.bot) (by kernel_rfl)) rfl

/-- loop.example/g00300/impl.breaks$2 -/
def h_impl_breaks_2 : List (Nat × Hint) := [(7, .join [(0, ⟨[], [(4, 0, .bool)]⟩)]), (3, .join [(0, ⟨[2, 3], [(5, 0, .bool)]⟩)])]
noncomputable def p_impl_breaks_2 : PE := (comp tysC [e_impl_isBelow] h_impl_breaks_2 Tryz.f73 [(.vw, (.pair .str (.pair (.int .i64) (.pair (.int .i64) (.pair .str .unit))))), (.vw, (.ptr .str)), (.vw, (.ptr (.pair .str (.pair (.int .i64) (.pair (.int .i64) (.pair .str .unit))))))] true .bool).getD .bot
noncomputable def e_impl_breaks_2 : Ent := ⟨73, [(.vw, (.pair .str (.pair (.int .i64) (.pair (.int .i64) (.pair .str .unit))))), (.vw, (.ptr .str)), (.vw, (.ptr (.pair .str (.pair (.int .i64) (.pair (.int .i64) (.pair .str .unit))))))], true, .bool, runPE [e_impl_isBelow] p_impl_breaks_2⟩
theorem ok_impl_breaks_2 : e_impl_breaks_2.Ok Tryz.prog := Ent.ok_of (pe := p_impl_breaks_2) (fn := Tryz.f73) (hs := h_impl_breaks_2) envC (ok_cons ok_impl_isBelow ok_nil) Tryz.func73 (by decide +kernel) (some_getD (d := PE.bot) (by kernel_rfl)) rfl

/-- slices.IndexFunc[[]loop.example/g00300/impl.Record,loop.example/g00300/impl.Record] -/
def h_slices_IndexFunc_impl_Record_impl_Record__impl_breaks_2 : List (Nat × Hint) := [(26, .loop ⟨[0, 1, 7], [(8, 0, (.int .i64))]⟩ [(1, ⟨[], [(4, 0, (.int .i64))]⟩), (2, ⟨[], []⟩)])]
noncomputable def p_slices_IndexFunc_impl_Record_impl_Record__impl_breaks_2 : PE := (comp tysC [e_impl_breaks_2] h_slices_IndexFunc_impl_Record_impl_Record__impl_breaks_2 Tryz.f70 [(.vw, (.lst false (.pair .str (.pair (.int .i64) (.pair (.int .i64) (.pair .str .unit)))))), (.vw, (.fn 73 (.pair (.ptr .str) (.pair (.ptr (.pair .str (.pair (.int .i64) (.pair (.int .i64) (.pair .str .unit))))) .unit))))] true (.int .i64)).getD .bot
noncomputable def e_slices_IndexFunc_impl_Record_impl_Record__impl_breaks_2 : Ent := ⟨70, [(.vw, (.lst false (.pair .str (.pair (.int .i64) (.pair (.int .i64) (.pair .str .unit)))))), (.vw, (.fn 73 (.pair (.ptr .str) (.pair (.ptr (.pair .str (.pair (.int .i64) (.pair (.int .i64) (.pair .str .unit))))) .unit))))], true, (.int .i64), runPE [e_impl_breaks_2] p_slices_IndexFunc_impl_Record_impl_Record__impl_breaks_2⟩
theorem ok_slices_IndexFunc_impl_Record_impl_Record__impl_breaks_2 : e_slices_IndexFunc_impl_Record_impl_Record__impl_breaks_2.Ok Tryz.prog := Ent.ok_of (pe := p_slices_IndexFunc_impl_Record_impl_Record__impl_breaks_2) (fn := Tryz.f70) (hs := h_slices_IndexFunc_impl_Record_impl_Record__impl_breaks_2) envC (ok_cons ok_impl_breaks_2 ok_nil) Tryz.func70 (by decide +kernel) (some_getD (d := PE.bot) (by kernel_rfl)) rfl

/-- slices.ContainsFunc[[]loop.example/g00300/impl.Record,loop.example/g00300/impl.Record] -/
def h_slices_ContainsFunc_impl_Record_impl_Record__impl_breaks_2 : List (Nat × Hint) := []
noncomputable def p_slices_ContainsFunc_impl_Record_impl_Record__impl_breaks_2 : PE := (comp tysC [e_slices_IndexFunc_impl_Record_impl_Record__impl_breaks_2] h_slices_ContainsFunc_impl_Record_impl_Record__impl_breaks_2 Tryz.f57 [(.vw, (.lst false (.pair .str (.pair (.int .i64) (.pair (.int .i64) (.pair .str .unit)))))), (.vw, (.fn 73 (.pair (.ptr .str) (.pair (.ptr (.pair .str (.pair (.int .i64) (.pair (.int .i64) (.pair .str .unit))))) .unit))))] true .bool).getD .bot
noncomputable def e_slices_ContainsFunc_impl_Record_impl_Record__impl_breaks_2 : Ent := ⟨57, [(.vw, (.lst false (.pair .str (.pair (.int .i64) (.pair (.int .i64) (.pair .str .unit)))))), (.vw, (.fn 73 (.pair (.ptr .str) (.pair (.ptr (.pair .str (.pair (.int .i64) (.pair (.int .i64) (.pair .str .unit))))) .unit))))], true, .bool, runPE [e_slices_IndexFunc_impl_Record_impl_Record__impl_breaks_2] p_slices_ContainsFunc_impl_Record_impl_Record__impl_breaks_2⟩
theorem ok_slices_ContainsFunc_impl_Record_impl_Record__impl_breaks_2 : e_slices_ContainsFunc_impl_Record_impl_Record__impl_breaks_2.Ok Tryz.prog := Ent.ok_of (pe := p_slices_ContainsFunc_impl_Record_impl_Record__impl_breaks_2) (fn := Tryz.f57) (hs := h_slices_ContainsFunc_impl_Record_impl_Record__impl_breaks_2) envC (ok_cons ok_slices_IndexFunc_impl_Record_impl_Record__impl_breaks_2 ok_nil) Tryz.func57 (by decide +kernel) (some_getD (d := PE.bot) (by kernel_rfl)) rfl

/-- loop.example/g00300/impl.breaks -/
def h_impl_breaks : List (Nat × Hint) := [(27646, .join [(0, ⟨[], [(8, 0, .bool)]⟩)]), (6910, .join [(0, ⟨[], [(8, 0, .bool)]⟩)]), (430, .join [(0, ⟨[], [(8, 0, .bool)]⟩)])]
noncomputable def p_impl_breaks : PE := (comp tysC [e_impl_isBelow, e_impl_at, e_slices_ContainsFunc_impl_Record_impl_Record__impl_breaks_1, e_slices_ContainsFunc_impl_Record_impl_Record__impl_breaks_2] h_impl_breaks Tryz.f59 [(.vw, .str), (.vw, (.lst false (.pair .str (.pair (.int .i64) (.pair (.int .i64) (.pair .str .unit)))))), (.vw, (.pair .str (.pair (.int .i64) (.pair (.int .i64) (.pair .str .unit))))), (.vw, (.int .i64))] true .bool).getD .bot
noncomputable def e_impl_breaks : Ent := ⟨59, [(.vw, .str), (.vw, (.lst false (.pair .str (.pair (.int .i64) (.pair (.int .i64) (.pair .str .unit)))))), (.vw, (.pair .str (.pair (.int .i64) (.pair (.int .i64) (.pair .str .unit))))), (.vw, (.int .i64))], true, .bool, runPE [e_impl_isBelow, e_impl_at, e_slices_ContainsFunc_impl_Record_impl_Record__impl_breaks_1, e_slices_ContainsFunc_impl_Record_impl_Record__impl_breaks_2] p_impl_breaks⟩
theorem ok_impl_breaks : e_impl_breaks.Ok Tryz.prog := Ent.ok_of (pe := p_impl_breaks) (fn := Tryz.f59) (hs := h_impl_breaks) envC (ok_cons ok_impl_isBelow (ok_cons ok_impl_at (ok_cons ok_slices_ContainsFunc_impl_Record_impl_Record__impl_breaks_1 (ok_cons ok_slices_ContainsFunc_impl_Record_impl_Record__impl_breaks_2 ok_nil)))) Tryz.func59 (by decide +kernel) (some_getD (d := PE.bot) (by kernel_rfl)) rfl

/-- loop.example/g00300/impl.RuleOf$1 -/
def h_impl_RuleOf_1 : List (Nat × Hint) := []
noncomputable def p_impl_RuleOf_1 : PE := (comp tysC [e_impl_breaks] h_impl_RuleOf_1 Tryz.f58 [(.vw, (.pair .str (.pair (.int .i64) (.pair (.int .i64) (.pair .str .unit))))), (.vw, (.ptr .str)), (.vw, (.ptr (.lst false (.pair .str (.pair (.int .i64) (.pair (.int .i64) (.pair .str .unit))))))), (.vw, (.ptr (.int .i64)))] true .bool).getD .bot
noncomputable def e_impl_RuleOf_1 : Ent := ⟨58, [(.vw, (.pair .str (.pair (.int .i64) (.pair (.int .i64) (.pair .str .unit))))), (.vw, (.ptr .str)), (.vw, (.ptr (.lst false (.pair .str (.pair (.int .i64) (.pair (.int .i64) (.pair .str .unit))))))), (.vw, (.ptr (.int .i64)))], true, .bool, runPE [e_impl_breaks] p_impl_RuleOf_1⟩
theorem ok_impl_RuleOf_1 : e_impl_RuleOf_1.Ok Tryz.prog := Ent.ok_of (pe := p_impl_RuleOf_1) (fn := Tryz.f58) (hs := h_impl_RuleOf_1) envC (ok_cons ok_impl_breaks ok_nil) Tryz.func58 (by decide +kernel) (some_getD (d := PE.bot) (by kernel_rfl)) rfl

/-- slices.IndexFunc[[]loop.example/g00300/impl.Record,loop.example/g00300/impl.Record] -/
def h_slices_IndexFunc_impl_Record_impl_Record__impl_RuleOf_1 : List (Nat × Hint) := [(26, .loop ⟨[0, 1, 7], [(8, 0, (.int .i64))]⟩ [(1, ⟨[], [(4, 0, (.int .i64))]⟩), (2, ⟨[], []⟩)])]
noncomputable def p_slices_IndexFunc_impl_Record_impl_Record__impl_RuleOf_1 : PE := (comp tysC [e_impl_RuleOf_1] h_slices_IndexFunc_impl_Record_impl_Record__impl_RuleOf_1 Tryz.f70 [(.vw, (.lst false (.pair .str (.pair (.int .i64) (.pair (.int .i64) (.pair .str .unit)))))), (.vw, (.fn 58 (.pair (.ptr .str) (.pair (.ptr (.lst false (.pair .str (.pair (.int .i64) (.pair (.int .i64) (.pair .str .unit)))))) (.pair (.ptr (.int .i64)) .unit)))))] true (.int .i64)).getD .bot
noncomputable def e_slices_IndexFunc_impl_Record_impl_Record__impl_RuleOf_1 : Ent := ⟨70, [(.vw, (.lst false (.pair .str (.pair (.int .i64) (.pair (.int .i64) (.pair .str .unit)))))), (.vw, (.fn 58 (.pair (.ptr .str) (.pair (.ptr (.lst false (.pair .str (.pair (.int .i64) (.pair (.int .i64) (.pair .str .unit)))))) (.pair (.ptr (.int .i64)) .unit)))))], true, (.int .i64), runPE [e_impl_RuleOf_1] p_slices_IndexFunc_impl_Record_impl_Record__impl_RuleOf_1⟩
theorem ok_slices_IndexFunc_impl_Record_impl_Record__impl_RuleOf_1 : e_slices_IndexFunc_impl_Record_impl_Record__impl_RuleOf_1.Ok Tryz.prog := Ent.ok_of (pe := p_slices_IndexFunc_impl_Record_impl_Record__impl_RuleOf_1) (fn := Tryz.f70) (hs := h_slices_IndexFunc_impl_Record_impl_Record__impl_RuleOf_1) envC (ok_cons ok_impl_RuleOf_1 ok_nil) Tryz.func70 (by decide +kernel) (some_getD (d := PE.bot) (by kernel_rfl)) rfl

/-- slices.ContainsFunc[[]loop.example/g00300/impl.Record,loop.example/g00300/impl.Record] -/
def h_slices_ContainsFunc_impl_Record_impl_Record__impl_RuleOf_1 : List (Nat × Hint) := []
noncomputable def p_slices_ContainsFunc_impl_Record_impl_Record__impl_RuleOf_1 : PE := (comp tysC [e_slices_IndexFunc_impl_Record_impl_Record__impl_RuleOf_1] h_slices_ContainsFunc_impl_Record_impl_Record__impl_RuleOf_1 Tryz.f57 [(.vw, (.lst false (.pair .str (.pair (.int .i64) (.pair (.int .i64) (.pair .str .unit)))))), (.vw, (.fn 58 (.pair (.ptr .str) (.pair (.ptr (.lst false (.pair .str (.pair (.int .i64) (.pair (.int .i64) (.pair .str .unit)))))) (.pair (.ptr (.int .i64)) .unit)))))] true .bool).getD .bot
noncomputable def e_slices_ContainsFunc_impl_Record_impl_Record__impl_RuleOf_1 : Ent := ⟨57, [(.vw, (.lst false (.pair .str (.pair (.int .i64) (.pair (.int .i64) (.pair .str .unit)))))), (.vw, (.fn 58 (.pair (.ptr .str) (.pair (.ptr (.lst false (.pair .str (.pair (.int .i64) (.pair (.int .i64) (.pair .str .unit)))))) (.pair (.ptr (.int .i64)) .unit)))))], true, .bool, runPE [e_slices_IndexFunc_impl_Record_impl_Record__impl_RuleOf_1] p_slices_ContainsFunc_impl_Record_impl_Record__impl_RuleOf_1⟩
theorem ok_slices_ContainsFunc_impl_Record_impl_Record__impl_RuleOf_1 : e_slices_ContainsFunc_impl_Record_impl_Record__impl_RuleOf_1.Ok Tryz.prog := Ent.ok_of (pe := p_slices_ContainsFunc_impl_Record_impl_Record__impl_RuleOf_1) (fn := Tryz.f57) (hs := h_slices_ContainsFunc_impl_Record_impl_Record__impl_RuleOf_1) envC (ok_cons ok_slices_IndexFunc_impl_Record_impl_Record__impl_RuleOf_1 ok_nil) Tryz.func57 (by decide +kernel) (some_getD (d := PE.bot) (by kernel_rfl)) rfl

/-- loop.example/g00300/impl.RuleOf -/
def h_impl_RuleOf : List (Nat × Hint) := [(58, .loop ⟨[2, 3], [(5, 2, (.int .i64))]⟩ [(1, ⟨[], [(4, 0, (.int .i64))]⟩), (2, ⟨[], []⟩)]), (932, .join [(0, ⟨[2, 3, 5], [(27, 0, .bool)]⟩)])]
noncomputable def p_impl_RuleOf : PE := (comp tysC [e_impl_isWhole, e_slices_ContainsFunc_impl_Record_impl_Record__impl_RuleOf_1, e_impl_at] h_impl_RuleOf Tryz.f45 [(.vw, .str), (.vw, (.lst false (.pair .str (.pair (.int .i64) (.pair (.int .i64) (.pair .str .unit))))))] true (.int .i64)).getD .bot
noncomputable def e_impl_RuleOf : Ent := ⟨45, [(.vw, .str), (.vw, (.lst false (.pair .str (.pair (.int .i64) (.pair (.int .i64) (.pair .str .unit))))))], true, (.int .i64), runPE [e_impl_isWhole, e_slices_ContainsFunc_impl_Record_impl_Record__impl_RuleOf_1, e_impl_at] p_impl_RuleOf⟩
theorem ok_impl_RuleOf : e_impl_RuleOf.Ok Tryz.prog := Ent.ok_of (pe := p_impl_RuleOf) (fn := Tryz.f45) (hs := h_impl_RuleOf) envC (ok_cons ok_impl_isWhole (ok_cons ok_slices_ContainsFunc_impl_Record_impl_Record__impl_RuleOf_1 (ok_cons ok_impl_at ok_nil))) Tryz.func45 (by decide +kernel) (some_getD (d := PE.bot) (by kernel_rfl)) rfl

/-- loop.example/g00300/impl.serialText -/
def h_impl_serialText : List (Nat × Hint) := []
noncomputable def p_impl_serialText : PE := (comp tysC [e_strconv_Itoa] h_impl_serialText Tryz.f47 [(.vw, (.int .i64))] true .str).getD .bot
noncomputable def e_impl_serialText : Ent := ⟨47, [(.vw, (.int .i64))], true, .str, runPE [e_strconv_Itoa] p_impl_serialText⟩
theorem ok_impl_serialText : e_impl_serialText.Ok Tryz.prog := Ent.ok_of (pe := p_impl_serialText) (fn := Tryz.f47) (hs := h_impl_serialText) envC (ok_cons ok_strconv_Itoa ok_nil) Tryz.func47 (by decide +kernel) (some_getD (d := PE.bot) (by kernel_rfl)) rfl

/-- loop.example/g00300/impl.GoodZone -/
def h_impl_GoodZone : List (Nat × Hint) := [(3, .join [(0, ⟨[], [(2, 0, .bool)]⟩)])]
noncomputable def p_impl_GoodZone : PE := (comp tysC [e_impl_isCounter, e_impl_RuleOf, e_impl_at, e_impl_serialText] h_impl_GoodZone Tryz.f30 [(.vw, (.pair .str (.pair (.int .i64) (.pair (.lst false (.pair .str (.pair (.int .i64) (.pair (.int .i64) (.pair .str .unit))))) .unit))))] true .bool).getD .bot
noncomputable def e_impl_GoodZone : Ent := ⟨30, [(.vw, (.pair .str (.pair (.int .i64) (.pair (.lst false (.pair .str (.pair (.int .i64) (.pair (.int .i64) (.pair .str .unit))))) .unit))))], true, .bool, runPE [e_impl_isCounter, e_impl_RuleOf, e_impl_at, e_impl_serialText] p_impl_GoodZone⟩
theorem ok_impl_GoodZone : e_impl_GoodZone.Ok Tryz.prog := Ent.ok_of (pe := p_impl_GoodZone) (fn := Tryz.f30) (hs := h_impl_GoodZone) envC (ok_cons ok_impl_isCounter (ok_cons ok_impl_RuleOf (ok_cons ok_impl_at (ok_cons ok_impl_serialText ok_nil)))) Tryz.func30 (by decide +kernel) (some_getD (d := PE.bot) (by kernel_rfl)) rfl

/-- loop.example/g00300/impl.NewZone -/
def h_impl_NewZone : List (Nat × Hint) := []
noncomputable def p_impl_NewZone : PE := (comp tysC [e_impl_GoodZone] h_impl_NewZone Tryz.f15 [(.vw, .str)] false (.pair (.pair .str (.pair (.int .i64) (.pair (.lst true (.pair .str (.pair (.int .i64) (.pair (.int .i64) (.pair .str .unit))))) .unit))) (.pair .bool .unit))).getD .bot
noncomputable def e_impl_NewZone : Ent := ⟨15, [(.vw, .str)], false, (.pair (.pair .str (.pair (.int .i64) (.pair (.lst true (.pair .str (.pair (.int .i64) (.pair (.int .i64) (.pair .str .unit))))) .unit))) (.pair .bool .unit)), runPE [e_impl_GoodZone] p_impl_NewZone⟩
theorem ok_impl_NewZone : e_impl_NewZone.Ok Tryz.prog := Ent.ok_of (pe := p_impl_NewZone) (fn := Tryz.f15) (hs := h_impl_NewZone) envC (ok_cons ok_impl_GoodZone ok_nil) Tryz.func15 (by decide +kernel) (some_getD (d := PE.bot) (by kernel_rfl)) rfl

/-- loop.example/g00300/impl.NewControl -/
def h_impl_NewControl : List (Nat × Hint) := []
noncomputable def p_impl_NewControl : PE := (comp tysC [e_impl_NewZone] h_impl_NewControl Tryz.f6 [(.vw, .str)] false (.pair (.pair (.pair .str (.pair (.int .i64) (.pair (.lst true (.pair .str (.pair (.int .i64) (.pair (.int .i64) (.pair .str .unit))))) .unit))) (.pair (.lst true (.pair (.int .i64) (.pair (.int .i64) (.pair (.int .i64) (.pair (.int .i64) .unit))))) (.pair (.int .i64) .unit))) (.pair .bool .unit))).getD .bot
noncomputable def e_impl_NewControl : Ent := ⟨6, [(.vw, .str)], false, (.pair (.pair (.pair .str (.pair (.int .i64) (.pair (.lst true (.pair .str (.pair (.int .i64) (.pair (.int .i64) (.pair .str .unit))))) .unit))) (.pair (.lst true (.pair (.int .i64) (.pair (.int .i64) (.pair (.int .i64) (.pair (.int .i64) .unit))))) (.pair (.int .i64) .unit))) (.pair .bool .unit)), runPE [e_impl_NewZone] p_impl_NewControl⟩
theorem ok_impl_NewControl : e_impl_NewControl.Ok Tryz.prog := Ent.ok_of (pe := p_impl_NewControl) (fn := Tryz.f6) (hs := h_impl_NewControl) envC (ok_cons ok_impl_NewZone ok_nil) Tryz.func6 (by decide +kernel) (some_getD (d := PE.bot) (by kernel_rfl)) rfl

end Go.Proofs.YtlflhlgppbbahaaGreatDoor
