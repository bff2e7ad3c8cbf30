/- The functions that the law reaches, each as a program of expressions. -/
import Derived.Test.YtbanjbafckgghaaDoorLb1
import Derived.Test.YtbanjbafckgghaaDoorProg
import Derived.KernelRfl
import Derived.Test.YtbanjbafckgghaaDoorLays
set_option linter.unusedSectionVars false
set_option linter.unusedVariables false
set_option linter.unusedSimpArgs false
namespace Go.Proofs.YtbanjbafckgghaaDoor
open Go Go.Own
set_option maxRecDepth 100000
/-- what is known: internal/bytealg.MaxLen holds a number -/
instance glbI : Glb := Glb.at [(0, isInt .i64)]
theorem glbMaxLen : ∀ h V, Glb.ok h V → ∃ m arr ty fz, h[Tryd.l146_ren.g 1]? = some (.cells arr ty fz) ∧ arr[0]? = some (.int .i64 m) :=
  fun _ _ h => isInt_get (h (0, isInt .i64) (by simp)).2
def tysC : List (TypeId × T × Nat) := [(3, (.int .i64), 0), (4, .bool, 0), (5, (.int .u8), 0), (9, .str, 0), (22, (.lst true (.int .u8)), 1), (23, (.lst true .str), 16), (24, (.lst true (.pair (.int .i64) (.pair .bool .unit))), 16), (27, (.lst true (.pair .str (.pair .bool (.pair (.int .i64) .unit)))), 32), (29, (.pair (.int .i64) (.pair (.int .i64) (.pair (.lst true (.pair .str (.pair .bool (.pair (.int .i64) .unit)))) .unit))), 0), (34, (.pair .str (.pair .bool (.pair (.int .i64) .unit))), 0), (36, (.pair (.int .i64) (.pair .bool .unit)), 0), (43, (.lst true (.pair .str (.pair .bool (.pair (.int .i64) .unit)))), 32), (45, (.pair (.int .i64) (.pair (.int .i64) (.pair (.lst true (.pair .str (.pair .bool (.pair (.int .i64) .unit)))) .unit))), 0), (46, (.pair (.int .i64) (.pair .bool .unit)), 0), (61, (.lst true (.pair (.int .i64) (.pair .bool .unit))), 16), (70, (.int .u64), 0), (72, (.pair (.lst true (.int .u8)) (.pair (.int .i64) (.pair (.int .u64) .unit))), 0), (104, (.pair .str (.pair .bool (.pair (.int .i64) .unit))), 0), (107, (.int .u64), 0)]
theorem envC : ∀ sig n fx fr, EnvOk Tryd.prog ⟨tyOf tysC, ebOf tysC, sig, n, fx, fr⟩ := by
  refine EnvOk.ofL (fun sig n fx fr t ht => ?_) (by kernel_rfl)
  simp only [tysC, List.map_cons, List.map_nil, List.mem_cons] at ht
  rcases ht with rfl | ht
  · exact ⟨Tryd.underlying3, rfl, by kernel_rfl, by kernel_rfl⟩
  rcases ht with rfl | ht
  · exact ⟨Tryd.underlying4, rfl, by kernel_rfl, by kernel_rfl⟩
  rcases ht with rfl | ht
  · exact ⟨Tryd.underlying5, rfl, by kernel_rfl, by kernel_rfl⟩
  rcases ht with rfl | ht
  · exact ⟨Tryd.underlying9, rfl, by kernel_rfl, by kernel_rfl⟩
  rcases ht with rfl | ht
  · exact ⟨⟨rfl, _, Tryd.underlying22, rfl, rfl, by kernel_rfl⟩, rfl, by kernel_rfl, by kernel_rfl⟩
  rcases ht with rfl | ht
  · exact ⟨⟨rfl, _, Tryd.underlying23, rfl, rfl, by kernel_rfl⟩, rfl, by kernel_rfl, by kernel_rfl⟩
  rcases ht with rfl | ht
  · exact ⟨⟨rfl, _, Tryd.underlying24, rfl, rfl, by kernel_rfl⟩, rfl, by kernel_rfl, by kernel_rfl⟩
  rcases ht with rfl | ht
  · exact ⟨⟨rfl, _, Tryd.underlying27, rfl, rfl, by kernel_rfl⟩, rfl, by kernel_rfl, by kernel_rfl⟩
  rcases ht with rfl | ht
  · exact ⟨⟨_, Tryd.underlying29, rfl, rfl, rfl, rfl, rfl, rfl, rfl, rfl, rfl, trivial⟩, rfl, by kernel_rfl, by kernel_rfl⟩
  rcases ht with rfl | ht
  · exact ⟨⟨_, Tryd.underlying34, rfl, rfl, rfl, rfl, rfl, rfl, rfl, rfl, rfl, trivial⟩, rfl, by kernel_rfl, by kernel_rfl⟩
  rcases ht with rfl | ht
  · exact ⟨⟨_, Tryd.underlying36, rfl, rfl, rfl, rfl, rfl, rfl, trivial⟩, rfl, by kernel_rfl, by kernel_rfl⟩
  rcases ht with rfl | ht
  · exact ⟨⟨rfl, _, Tryd.underlying43, rfl, rfl, by kernel_rfl⟩, rfl, by kernel_rfl, by kernel_rfl⟩
  rcases ht with rfl | ht
  · exact ⟨⟨_, Tryd.underlying45, rfl, rfl, rfl, rfl, rfl, rfl, rfl, rfl, rfl, trivial⟩, rfl, by kernel_rfl, by kernel_rfl⟩
  rcases ht with rfl | ht
  · exact ⟨⟨_, Tryd.underlying46, rfl, rfl, rfl, rfl, rfl, rfl, trivial⟩, rfl, by kernel_rfl, by kernel_rfl⟩
  rcases ht with rfl | ht
  · exact ⟨⟨rfl, _, Tryd.underlying61, rfl, rfl, by kernel_rfl⟩, rfl, by kernel_rfl, by kernel_rfl⟩
  rcases ht with rfl | ht
  · exact ⟨Tryd.underlying70, rfl, by kernel_rfl, by kernel_rfl⟩
  rcases ht with rfl | ht
  · exact ⟨⟨_, Tryd.underlying72, rfl, rfl, rfl, rfl, rfl, rfl, rfl, rfl, rfl, trivial⟩, rfl, by kernel_rfl, by kernel_rfl⟩
  rcases ht with rfl | ht
  · exact ⟨⟨_, Tryd.underlying104, rfl, rfl, rfl, rfl, rfl, rfl, rfl, rfl, rfl, trivial⟩, rfl, by kernel_rfl, by kernel_rfl⟩
  rcases ht with rfl | ht
  · exact ⟨Tryd.underlying107, rfl, by kernel_rfl, by kernel_rfl⟩
  cases ht

/-- (*loop.example/g00300/spec.l1Cur).next -/
def h_spec_l1Cur_next : List (Nat × Hint) := [(7, .join [(0, ⟨[0], [(3, 0, (.int .i64))]⟩)])]
noncomputable def p_spec_l1Cur_next : PE := (comp tysC [] h_spec_l1Cur_next Tryd.f63 [(.iop, (.pair (.lst false (.int .u8)) (.pair (.int .i64) (.pair (.int .u64) .unit))))] true (.int .i64)).getD .bot
noncomputable def e_spec_l1Cur_next : Ent := ⟨63, [(.iop, (.pair (.lst false (.int .u8)) (.pair (.int .i64) (.pair (.int .u64) .unit))))], true, (.int .i64), runPE [] p_spec_l1Cur_next⟩
theorem ok_spec_l1Cur_next : e_spec_l1Cur_next.Ok Tryd.prog := Ent.ok_of (pe := p_spec_l1Cur_next) (fn := Tryd.f63) (hs := h_spec_l1Cur_next) envC ok_nil Tryd.func63 (by decide +kernel) (some_getD (d := PE.bot) (by kernel_rfl)) rfl

/-- (*loop.example/g00300/spec.l1Cur).pick -/
def h_spec_l1Cur_pick : List (Nat × Hint) := [(15, .join [(0, ⟨[1], [(0, 2, (.pair (.lst false (.int .u8)) (.pair (.int .i64) (.pair (.int .u64) .unit)))), (5, 0, (.int .i64))]⟩)])]
noncomputable def p_spec_l1Cur_pick : PE := (comp tysC [e_spec_l1Cur_next] h_spec_l1Cur_pick Tryd.f37 [(.iop, (.pair (.lst false (.int .u8)) (.pair (.int .i64) (.pair (.int .u64) .unit)))), (.vw, (.int .i64))] true (.int .i64)).getD .bot
noncomputable def e_spec_l1Cur_pick : Ent := ⟨37, [(.iop, (.pair (.lst false (.int .u8)) (.pair (.int .i64) (.pair (.int .u64) .unit)))), (.vw, (.int .i64))], true, (.int .i64), runPE [e_spec_l1Cur_next] p_spec_l1Cur_pick⟩
theorem ok_spec_l1Cur_pick : e_spec_l1Cur_pick.Ok Tryd.prog := Ent.ok_of (pe := p_spec_l1Cur_pick) (fn := Tryd.f37) (hs := h_spec_l1Cur_pick) envC (ok_cons ok_spec_l1Cur_next ok_nil) Tryd.func37 (by decide +kernel) (some_getD (d := PE.bot) (by kernel_rfl)) rfl

/-- (*loop.example/g00300/spec.l1Cur).one -/
def h_spec_l1Cur_one : List (Nat × Hint) := []
noncomputable def p_spec_l1Cur_one : PE := (comp tysC [e_spec_l1Cur_pick] h_spec_l1Cur_one Tryd.f57 [(.iop, (.pair (.lst false (.int .u8)) (.pair (.int .i64) (.pair (.int .u64) .unit)))), (.vw, (.int .i64))] true .bool).getD .bot
noncomputable def e_spec_l1Cur_one : Ent := ⟨57, [(.iop, (.pair (.lst false (.int .u8)) (.pair (.int .i64) (.pair (.int .u64) .unit)))), (.vw, (.int .i64))], true, .bool, runPE [e_spec_l1Cur_pick] p_spec_l1Cur_one⟩
theorem ok_spec_l1Cur_one : e_spec_l1Cur_one.Ok Tryd.prog := Ent.ok_of (pe := p_spec_l1Cur_one) (fn := Tryd.f57) (hs := h_spec_l1Cur_one) envC (ok_cons ok_spec_l1Cur_pick ok_nil) Tryd.func57 (by decide +kernel) (some_getD (d := PE.bot) (by kernel_rfl)) rfl

/-- (*loop.example/g00300/spec.l1Cur).of -/
def h_spec_l1Cur_of : List (Nat × Hint) := []
noncomputable def p_spec_l1Cur_of : PE := (comp tysC [e_spec_l1Cur_pick] h_spec_l1Cur_of Tryd.f62 [(.iop, (.pair (.lst false (.int .u8)) (.pair (.int .i64) (.pair (.int .u64) .unit)))), (.vw, (.lst false .str))] true .str).getD .bot
noncomputable def e_spec_l1Cur_of : Ent := ⟨62, [(.iop, (.pair (.lst false (.int .u8)) (.pair (.int .i64) (.pair (.int .u64) .unit)))), (.vw, (.lst false .str))], true, .str, runPE [e_spec_l1Cur_pick] p_spec_l1Cur_of⟩
theorem ok_spec_l1Cur_of : e_spec_l1Cur_of.Ok Tryd.prog := Ent.ok_of (pe := p_spec_l1Cur_of) (fn := Tryd.f62) (hs := h_spec_l1Cur_of) envC (ok_cons ok_spec_l1Cur_pick ok_nil) Tryd.func62 (by decide +kernel) (some_getD (d := PE.bot) (by kernel_rfl)) rfl

/-- (*loop.example/g00300/spec.l1Cur).hosts -/
def h_spec_l1Cur_hosts : List (Nat × Hint) := [(7, .join [(0, ⟨[], [(0, 2, (.pair (.lst false (.int .u8)) (.pair (.int .i64) (.pair (.int .u64) .unit)))), (3, 0, (.lst true .str))]⟩)]), (0, .frz [15, 3, 2])]
noncomputable def p_spec_l1Cur_hosts : PE := (comp tysC [e_spec_l1Cur_pick, e_spec_l1Cur_one, e_spec_l1Cur_of] h_spec_l1Cur_hosts Tryd.f36 [(.iop, (.pair (.lst false (.int .u8)) (.pair (.int .i64) (.pair (.int .u64) .unit))))] true (.lst true .str)).getD .bot
noncomputable def e_spec_l1Cur_hosts : Ent := ⟨36, [(.iop, (.pair (.lst false (.int .u8)) (.pair (.int .i64) (.pair (.int .u64) .unit))))], true, (.lst true .str), runPE [e_spec_l1Cur_pick, e_spec_l1Cur_one, e_spec_l1Cur_of] p_spec_l1Cur_hosts⟩
theorem ok_spec_l1Cur_hosts : e_spec_l1Cur_hosts.Ok Tryd.prog := Ent.ok_of (pe := p_spec_l1Cur_hosts) (fn := Tryd.f36) (hs := h_spec_l1Cur_hosts) envC (ok_cons ok_spec_l1Cur_pick (ok_cons ok_spec_l1Cur_one (ok_cons ok_spec_l1Cur_of ok_nil))) Tryd.func36 (by decide +kernel) (some_getD (d := PE.bot) (by kernel_rfl)) rfl

/-- (*loop.example/g00300/spec.l1Cur).probes -/
def h_spec_l1Cur_probes : List (Nat × Hint) := [(63, .join [(0, ⟨[], [(0, 2, (.pair (.lst false (.int .u8)) (.pair (.int .i64) (.pair (.int .u64) .unit)))), (5, 0, (.lst true (.pair (.int .i64) (.pair .bool .unit))))]⟩)]), (126, .join [(0, ⟨[1, 5], [(0, 2, (.pair (.lst false (.int .u8)) (.pair (.int .i64) (.pair (.int .u64) .unit)))), (33, 0, .bool)]⟩)]), (124, .loop ⟨[1], [(0, 2, (.pair (.lst false (.int .u8)) (.pair (.int .i64) (.pair (.int .u64) .unit)))), (5, 0, (.lst true (.pair (.int .i64) (.pair .bool .unit)))), (6, 0, (.int .i64))]⟩ [(2, ⟨[1], [(0, 2, (.pair (.lst false (.int .u8)) (.pair (.int .i64) (.pair (.int .u64) .unit)))), (5, 0, (.lst true (.pair (.int .i64) (.pair .bool .unit))))]⟩)]), (15, .join [(0, ⟨[1, 5], [(0, 2, (.pair (.lst false (.int .u8)) (.pair (.int .i64) (.pair (.int .u64) .unit)))), (6, 0, (.int .i64))]⟩)]), (0, .frz [4])]
noncomputable def p_spec_l1Cur_probes : PE := (comp tysC [e_spec_l1Cur_pick, e_spec_l1Cur_one] h_spec_l1Cur_probes Tryd.f38 [(.iop, (.pair (.lst false (.int .u8)) (.pair (.int .i64) (.pair (.int .u64) .unit)))), (.vw, (.int .i64))] true (.lst true (.pair (.int .i64) (.pair .bool .unit)))).getD .bot
noncomputable def e_spec_l1Cur_probes : Ent := ⟨38, [(.iop, (.pair (.lst false (.int .u8)) (.pair (.int .i64) (.pair (.int .u64) .unit)))), (.vw, (.int .i64))], true, (.lst true (.pair (.int .i64) (.pair .bool .unit))), runPE [e_spec_l1Cur_pick, e_spec_l1Cur_one] p_spec_l1Cur_probes⟩
theorem ok_spec_l1Cur_probes : e_spec_l1Cur_probes.Ok Tryd.prog := Ent.ok_of (pe := p_spec_l1Cur_probes) (fn := Tryd.f38) (hs := h_spec_l1Cur_probes) envC (ok_cons ok_spec_l1Cur_pick (ok_cons ok_spec_l1Cur_one ok_nil)) Tryd.func38 (by decide +kernel) (some_getD (d := PE.bot) (by kernel_rfl)) rfl

/-- loop.example/g00300/spec.DrawPlayProbes -/
def h_spec_DrawPlayProbes : List (Nat × Hint) := [(0, .frz [4])]
noncomputable def p_spec_DrawPlayProbes : PE := (comp tysC [e_spec_l1Cur_hosts, e_spec_l1Cur_pick, e_spec_l1Cur_probes] h_spec_DrawPlayProbes Tryd.f7 [(.vw, (.lst false (.int .u8)))] false (.pair (.int .i64) (.pair (.int .i64) (.pair (.lst true .str) (.pair (.lst true (.pair (.int .i64) (.pair .bool .unit))) .unit))))).getD .bot
noncomputable def e_spec_DrawPlayProbes : Ent := ⟨7, [(.vw, (.lst false (.int .u8)))], false, (.pair (.int .i64) (.pair (.int .i64) (.pair (.lst true .str) (.pair (.lst true (.pair (.int .i64) (.pair .bool .unit))) .unit)))), runPE [e_spec_l1Cur_hosts, e_spec_l1Cur_pick, e_spec_l1Cur_probes] p_spec_DrawPlayProbes⟩
theorem ok_spec_DrawPlayProbes : e_spec_DrawPlayProbes.Ok Tryd.prog := Ent.ok_of (pe := p_spec_DrawPlayProbes) (fn := Tryd.f7) (hs := h_spec_DrawPlayProbes) envC (ok_cons ok_spec_l1Cur_hosts (ok_cons ok_spec_l1Cur_pick (ok_cons ok_spec_l1Cur_probes ok_nil))) Tryd.func7 (by decide +kernel) (some_getD (d := PE.bot) (by kernel_rfl)) rfl

/-- loop.example/g00300/impl.within -/
def h_impl_within : List (Nat × Hint) := [(3, .join [(0, ⟨[], [(6, 0, .bool)]⟩)])]
noncomputable def p_impl_within : PE := (comp tysC [] h_impl_within Tryd.f40 [(.vw, (.int .i64)), (.vw, (.int .i64)), (.vw, (.int .i64))] true .bool).getD .bot
noncomputable def e_impl_within : Ent := ⟨40, [(.vw, (.int .i64)), (.vw, (.int .i64)), (.vw, (.int .i64))], true, .bool, runPE [] p_impl_within⟩
theorem ok_impl_within : e_impl_within.Ok Tryd.prog := Ent.ok_of (pe := p_impl_within) (fn := Tryd.f40) (hs := h_impl_within) envC ok_nil Tryd.func40 (by decide +kernel) (some_getD (d := PE.bot) (by kernel_rfl)) rfl

/-- strings.Split -/
noncomputable abbrev e_strings_Split : Ent := splitE 75
theorem ok_strings_Split : e_strings_Split.Ok Tryd.prog := splitE_ok Tryd.l146 (by kernel_rfl) Tryd.func75 (by decide +kernel) rfl glbMaxLen

/-- loop.example/g00300/impl.labelsOf -/
def h_impl_labelsOf : List (Nat × Hint) := []
noncomputable def p_impl_labelsOf : PE := (comp tysC [e_strings_Split] h_impl_labelsOf Tryd.f67 [(.vw, .str)] true (.lst true .str)).getD .bot
noncomputable def e_impl_labelsOf : Ent := ⟨67, [(.vw, .str)], true, (.lst true .str), runPE [e_strings_Split] p_impl_labelsOf⟩
theorem ok_impl_labelsOf : e_impl_labelsOf.Ok Tryd.prog := Ent.ok_of (pe := p_impl_labelsOf) (fn := Tryd.f67) (hs := h_impl_labelsOf) envC (ok_cons ok_strings_Split ok_nil) Tryd.func67 (by decide +kernel) (some_getD (d := PE.bot) (by kernel_rfl)) rfl

/-- strings.Trim -/
noncomputable abbrev e_strings_Trim : Ent := trimE 77
theorem ok_strings_Trim : e_strings_Trim.Ok Tryd.prog := trimE_ok Tryd.l160 (by kernel_rfl) (by kernel_rfl) Tryd.func77 (by decide +kernel) rfl

/-- loop.example/g00300/impl.isLabel -/
def h_impl_isLabel : List (Nat × Hint) := [(7, .join [(0, ⟨[], [(2, 0, .bool)]⟩)])]
noncomputable def p_impl_isLabel : PE := (comp tysC [e_impl_within, e_strings_Trim] h_impl_isLabel Tryd.f70 [(.vw, .str)] true .bool).getD .bot
noncomputable def e_impl_isLabel : Ent := ⟨70, [(.vw, .str)], true, .bool, runPE [e_impl_within, e_strings_Trim] p_impl_isLabel⟩
theorem ok_impl_isLabel : e_impl_isLabel.Ok Tryd.prog := Ent.ok_of (pe := p_impl_isLabel) (fn := Tryd.f70) (hs := h_impl_isLabel) envC (ok_cons ok_impl_within (ok_cons ok_strings_Trim ok_nil)) Tryd.func70 (by decide +kernel) (some_getD (d := PE.bot) (by kernel_rfl)) rfl

/-- loop.example/g00300/impl.GoodName$1 -/
def h_impl_GoodName_1 : List (Nat × Hint) := []
noncomputable def p_impl_GoodName_1 : PE := (comp tysC [e_impl_isLabel] h_impl_GoodName_1 Tryd.f69 [(.vw, .str)] true .bool).getD .bot
noncomputable def e_impl_GoodName_1 : Ent := ⟨69, [(.vw, .str)], true, .bool, runPE [e_impl_isLabel] p_impl_GoodName_1⟩
theorem ok_impl_GoodName_1 : e_impl_GoodName_1.Ok Tryd.prog := Ent.ok_of (pe := p_impl_GoodName_1) (fn := Tryd.f69) (hs := h_impl_GoodName_1) envC (ok_cons ok_impl_isLabel ok_nil) Tryd.func69 (by decide +kernel) (some_getD (d := PE.bot) (by kernel_rfl)) rfl

/-- slices.IndexFunc[[]string,string] -/
def h_slices_IndexFunc_string_string__impl_GoodName_1 : List (Nat × Hint) := [(26, .loop ⟨[0, 1, 7], [(8, 0, (.int .i64))]⟩ [(1, ⟨[], [(4, 0, (.int .i64))]⟩), (2, ⟨[], []⟩)])]
noncomputable def p_slices_IndexFunc_string_string__impl_GoodName_1 : PE := (comp tysC [e_impl_GoodName_1] h_slices_IndexFunc_string_string__impl_GoodName_1 Tryd.f76 [(.vw, (.lst false .str)), (.vw, (.fn 69 .unit))] true (.int .i64)).getD .bot
noncomputable def e_slices_IndexFunc_string_string__impl_GoodName_1 : Ent := ⟨76, [(.vw, (.lst false .str)), (.vw, (.fn 69 .unit))], true, (.int .i64), runPE [e_impl_GoodName_1] p_slices_IndexFunc_string_string__impl_GoodName_1⟩
theorem ok_slices_IndexFunc_string_string__impl_GoodName_1 : e_slices_IndexFunc_string_string__impl_GoodName_1.Ok Tryd.prog := Ent.ok_of (pe := p_slices_IndexFunc_string_string__impl_GoodName_1) (fn := Tryd.f76) (hs := h_slices_IndexFunc_string_string__impl_GoodName_1) envC (ok_cons ok_impl_GoodName_1 ok_nil) Tryd.func76 (by decide +kernel) (some_getD (d := PE.bot) (by kernel_rfl)) rfl

/-- slices.ContainsFunc[[]string,string] -/
def h_slices_ContainsFunc_string_string__impl_GoodName_1 : List (Nat × Hint) := []
noncomputable def p_slices_ContainsFunc_string_string__impl_GoodName_1 : PE := (comp tysC [e_slices_IndexFunc_string_string__impl_GoodName_1] h_slices_ContainsFunc_string_string__impl_GoodName_1 Tryd.f68 [(.vw, (.lst false .str)), (.vw, (.fn 69 .unit))] true .bool).getD .bot
noncomputable def e_slices_ContainsFunc_string_string__impl_GoodName_1 : Ent := ⟨68, [(.vw, (.lst false .str)), (.vw, (.fn 69 .unit))], true, .bool, runPE [e_slices_IndexFunc_string_string__impl_GoodName_1] p_slices_ContainsFunc_string_string__impl_GoodName_1⟩
theorem ok_slices_ContainsFunc_string_string__impl_GoodName_1 : e_slices_ContainsFunc_string_string__impl_GoodName_1.Ok Tryd.prog := Ent.ok_of (pe := p_slices_ContainsFunc_string_string__impl_GoodName_1) (fn := Tryd.f68) (hs := h_slices_ContainsFunc_string_string__impl_GoodName_1) envC (ok_cons ok_slices_IndexFunc_string_string__impl_GoodName_1 ok_nil) Tryd.func68 (by decide +kernel) (some_getD (d := PE.bot) (by kernel_rfl)) rfl

/-- loop.example/g00300/impl.GoodName -/
def h_impl_GoodName : List (Nat × Hint) := [(15, .join [(0, ⟨[], [(2, 0, .bool)]⟩)])]
noncomputable def p_impl_GoodName : PE := (comp tysC [e_impl_labelsOf, e_slices_ContainsFunc_string_string__impl_GoodName_1] h_impl_GoodName Tryd.f44 [(.vw, .str)] true .bool).getD .bot
noncomputable def e_impl_GoodName : Ent := ⟨44, [(.vw, .str)], true, .bool, runPE [e_impl_labelsOf, e_slices_ContainsFunc_string_string__impl_GoodName_1] p_impl_GoodName⟩
theorem ok_impl_GoodName : e_impl_GoodName.Ok Tryd.prog := Ent.ok_of (pe := p_impl_GoodName) (fn := Tryd.f44) (hs := h_impl_GoodName) envC (ok_cons ok_impl_labelsOf (ok_cons ok_slices_ContainsFunc_string_string__impl_GoodName_1 ok_nil)) Tryd.func44 (by decide +kernel) (some_getD (d := PE.bot) (by kernel_rfl)) rfl

/-- (loop.example/g00300/impl.Health).mostRow -/
def h_impl_Health_mostRow : List (Nat × Hint) := []
noncomputable def p_impl_Health_mostRow : PE := (comp tysC [] h_impl_Health_mostRow Tryd.f45 [(.vw, (.pair (.int .i64) (.pair (.int .i64) (.pair (.lst false (.pair .str (.pair .bool (.pair (.int .i64) .unit)))) .unit)))), (.vw, (.pair .str (.pair .bool (.pair (.int .i64) .unit))))] true (.int .i64)).getD .bot
noncomputable def e_impl_Health_mostRow : Ent := ⟨45, [(.vw, (.pair (.int .i64) (.pair (.int .i64) (.pair (.lst false (.pair .str (.pair .bool (.pair (.int .i64) .unit)))) .unit)))), (.vw, (.pair .str (.pair .bool (.pair (.int .i64) .unit))))], true, (.int .i64), runPE [] p_impl_Health_mostRow⟩
theorem ok_impl_Health_mostRow : e_impl_Health_mostRow.Ok Tryd.prog := Ent.ok_of (pe := p_impl_Health_mostRow) (fn := Tryd.f45) (hs := h_impl_Health_mostRow) envC ok_nil Tryd.func45 (by decide +kernel) (some_getD (d := PE.bot) (by kernel_rfl)) rfl

/-- loop.example/g00300/impl.GoodHealth$1 -/
def h_impl_GoodHealth_1 : List (Nat × Hint) := []
noncomputable def p_impl_GoodHealth_1 : PE := (comp tysC [] h_impl_GoodHealth_1 Tryd.f47 [(.vw, (.pair .str (.pair .bool (.pair (.int .i64) .unit)))), (.vw, (.ptr (.pair .str (.pair .bool (.pair (.int .i64) .unit)))))] true .bool).getD .bot
noncomputable def e_impl_GoodHealth_1 : Ent := ⟨47, [(.vw, (.pair .str (.pair .bool (.pair (.int .i64) .unit)))), (.vw, (.ptr (.pair .str (.pair .bool (.pair (.int .i64) .unit)))))], true, .bool, runPE [] p_impl_GoodHealth_1⟩
theorem ok_impl_GoodHealth_1 : e_impl_GoodHealth_1.Ok Tryd.prog := Ent.ok_of (pe := p_impl_GoodHealth_1) (fn := Tryd.f47) (hs := h_impl_GoodHealth_1) envC ok_nil Tryd.func47 (by decide +kernel) (some_getD (d := PE.bot) (by kernel_rfl)) rfl

/-- slices.IndexFunc[[]loop.example/g00300/impl.Host,loop.example/g00300/impl.Host] -/
def h_slices_IndexFunc_impl_Host_impl_Host__impl_GoodHealth_1 : List (Nat × Hint) := [(26, .loop ⟨[0, 1, 7], [(8, 0, (.int .i64))]⟩ [(1, ⟨[], [(4, 0, (.int .i64))]⟩), (2, ⟨[], []⟩)])]
noncomputable def p_slices_IndexFunc_impl_Host_impl_Host__impl_GoodHealth_1 : PE := (comp tysC [e_impl_GoodHealth_1] h_slices_IndexFunc_impl_Host_impl_Host__impl_GoodHealth_1 Tryd.f65 [(.vw, (.lst false (.pair .str (.pair .bool (.pair (.int .i64) .unit))))), (.vw, (.fn 47 (.pair (.ptr (.pair .str (.pair .bool (.pair (.int .i64) .unit)))) .unit)))] true (.int .i64)).getD .bot
noncomputable def e_slices_IndexFunc_impl_Host_impl_Host__impl_GoodHealth_1 : Ent := ⟨65, [(.vw, (.lst false (.pair .str (.pair .bool (.pair (.int .i64) .unit))))), (.vw, (.fn 47 (.pair (.ptr (.pair .str (.pair .bool (.pair (.int .i64) .unit)))) .unit)))], true, (.int .i64), runPE [e_impl_GoodHealth_1] p_slices_IndexFunc_impl_Host_impl_Host__impl_GoodHealth_1⟩
theorem ok_slices_IndexFunc_impl_Host_impl_Host__impl_GoodHealth_1 : e_slices_IndexFunc_impl_Host_impl_Host__impl_GoodHealth_1.Ok Tryd.prog := Ent.ok_of (pe := p_slices_IndexFunc_impl_Host_impl_Host__impl_GoodHealth_1) (fn := Tryd.f65) (hs := h_slices_IndexFunc_impl_Host_impl_Host__impl_GoodHealth_1) envC (ok_cons ok_impl_GoodHealth_1 ok_nil) Tryd.func65 (by decide +kernel) (some_getD (d := PE.bot) (by kernel_rfl)) rfl

/-- slices.ContainsFunc[[]loop.example/g00300/impl.Host,loop.example/g00300/impl.Host] -/
def h_slices_ContainsFunc_impl_Host_impl_Host__impl_GoodHealth_1 : List (Nat × Hint) := []
noncomputable def p_slices_ContainsFunc_impl_Host_impl_Host__impl_GoodHealth_1 : PE := (comp tysC [e_slices_IndexFunc_impl_Host_impl_Host__impl_GoodHealth_1] h_slices_ContainsFunc_impl_Host_impl_Host__impl_GoodHealth_1 Tryd.f46 [(.vw, (.lst false (.pair .str (.pair .bool (.pair (.int .i64) .unit))))), (.vw, (.fn 47 (.pair (.ptr (.pair .str (.pair .bool (.pair (.int .i64) .unit)))) .unit)))] true .bool).getD .bot
noncomputable def e_slices_ContainsFunc_impl_Host_impl_Host__impl_GoodHealth_1 : Ent := ⟨46, [(.vw, (.lst false (.pair .str (.pair .bool (.pair (.int .i64) .unit))))), (.vw, (.fn 47 (.pair (.ptr (.pair .str (.pair .bool (.pair (.int .i64) .unit)))) .unit)))], true, .bool, runPE [e_slices_IndexFunc_impl_Host_impl_Host__impl_GoodHealth_1] p_slices_ContainsFunc_impl_Host_impl_Host__impl_GoodHealth_1⟩
theorem ok_slices_ContainsFunc_impl_Host_impl_Host__impl_GoodHealth_1 : e_slices_ContainsFunc_impl_Host_impl_Host__impl_GoodHealth_1.Ok Tryd.prog := Ent.ok_of (pe := p_slices_ContainsFunc_impl_Host_impl_Host__impl_GoodHealth_1) (fn := Tryd.f46) (hs := h_slices_ContainsFunc_impl_Host_impl_Host__impl_GoodHealth_1) envC (ok_cons ok_slices_IndexFunc_impl_Host_impl_Host__impl_GoodHealth_1 ok_nil) Tryd.func46 (by decide +kernel) (some_getD (d := PE.bot) (by kernel_rfl)) rfl

/-- loop.example/g00300/impl.GoodHealth -/
def h_impl_GoodHealth : List (Nat × Hint) := [(58, .loop ⟨[1, 23, 24], [(25, 0, (.int .i64))]⟩ [(1, ⟨[], [(2, 0, .bool)]⟩), (2, ⟨[], []⟩)]), (3737, .join [(0, ⟨[1, 23, 24, 25], [(56, 0, .bool)]⟩)]), (6, .join [(0, ⟨[1], [(21, 0, .bool)]⟩)])]
noncomputable def p_impl_GoodHealth : PE := (comp tysC [e_impl_within, e_impl_GoodName, e_impl_Health_mostRow, e_slices_ContainsFunc_impl_Host_impl_Host__impl_GoodHealth_1] h_impl_GoodHealth Tryd.f13 [(.vw, (.pair (.int .i64) (.pair (.int .i64) (.pair (.lst false (.pair .str (.pair .bool (.pair (.int .i64) .unit)))) .unit))))] true .bool).getD .bot
noncomputable def e_impl_GoodHealth : Ent := ⟨13, [(.vw, (.pair (.int .i64) (.pair (.int .i64) (.pair (.lst false (.pair .str (.pair .bool (.pair (.int .i64) .unit)))) .unit))))], true, .bool, runPE [e_impl_within, e_impl_GoodName, e_impl_Health_mostRow, e_slices_ContainsFunc_impl_Host_impl_Host__impl_GoodHealth_1] p_impl_GoodHealth⟩
theorem ok_impl_GoodHealth : e_impl_GoodHealth.Ok Tryd.prog := Ent.ok_of (pe := p_impl_GoodHealth) (fn := Tryd.f13) (hs := h_impl_GoodHealth) envC (ok_cons ok_impl_within (ok_cons ok_impl_GoodName (ok_cons ok_impl_Health_mostRow (ok_cons ok_slices_ContainsFunc_impl_Host_impl_Host__impl_GoodHealth_1 ok_nil)))) Tryd.func13 (by decide +kernel) (some_getD (d := PE.bot) (by kernel_rfl)) rfl

/-- loop.example/g00300/impl.NewHealth -/
def h_impl_NewHealth : List (Nat × Hint) := [(122, .loop ⟨[6, 18, 19], [(8, 2, (.pair (.int .i64) (.pair (.int .i64) (.pair (.lst true (.pair .str (.pair .bool (.pair (.int .i64) .unit)))) .unit)))), (20, 0, (.int .i64))]⟩ [(2, ⟨[6], [(8, 2, (.pair (.int .i64) (.pair (.int .i64) (.pair (.lst true (.pair .str (.pair .bool (.pair (.int .i64) .unit)))) .unit))))]⟩)])]
noncomputable def p_impl_NewHealth : PE := (comp tysC [e_impl_GoodHealth] h_impl_NewHealth Tryd.f39 [(.vw, (.int .i64)), (.vw, (.int .i64)), (.vw, (.lst false .str))] false (.pair (.pair (.int .i64) (.pair (.int .i64) (.pair (.lst true (.pair .str (.pair .bool (.pair (.int .i64) .unit)))) .unit))) (.pair .bool .unit))).getD .bot
noncomputable def e_impl_NewHealth : Ent := ⟨39, [(.vw, (.int .i64)), (.vw, (.int .i64)), (.vw, (.lst false .str))], false, (.pair (.pair (.int .i64) (.pair (.int .i64) (.pair (.lst true (.pair .str (.pair .bool (.pair (.int .i64) .unit)))) .unit))) (.pair .bool .unit)), runPE [e_impl_GoodHealth] p_impl_NewHealth⟩
theorem ok_impl_NewHealth : e_impl_NewHealth.Ok Tryd.prog := Ent.ok_of (pe := p_impl_NewHealth) (fn := Tryd.f39) (hs := h_impl_NewHealth) envC (ok_cons ok_impl_GoodHealth ok_nil) Tryd.func39 (by decide +kernel) (some_getD (d := PE.bot) (by kernel_rfl)) rfl

/-- slices.Clone[[]loop.example/g00300/impl.Host,loop.example/g00300/impl.Host] -/
def h_slices_Clone_impl_Host_impl_Host : List (Nat × Hint) := []
noncomputable def p_slices_Clone_impl_Host_impl_Host : PE := (comp tysC [] h_slices_Clone_impl_Host_impl_Host Tryd.f64 [(.vw, (.lst false (.pair .str (.pair .bool (.pair (.int .i64) .unit)))))] true (.lst true (.pair .str (.pair .bool (.pair (.int .i64) .unit))))).getD .bot
noncomputable def e_slices_Clone_impl_Host_impl_Host : Ent := ⟨64, [(.vw, (.lst false (.pair .str (.pair .bool (.pair (.int .i64) .unit)))))], true, (.lst true (.pair .str (.pair .bool (.pair (.int .i64) .unit)))), runPE [] p_slices_Clone_impl_Host_impl_Host⟩
theorem ok_slices_Clone_impl_Host_impl_Host : e_slices_Clone_impl_Host_impl_Host.Ok Tryd.prog := Ent.ok_of (pe := p_slices_Clone_impl_Host_impl_Host) (fn := Tryd.f64) (hs := h_slices_Clone_impl_Host_impl_Host) envC ok_nil Tryd.func64 (by decide +kernel) (some_getD (d := PE.bot) (by kernel_rfl)) rfl

/-- loop.example/g00300/impl.probed -/
def h_impl_probed : List (Nat × Hint) := []
noncomputable def p_impl_probed : PE := (comp tysC [e_slices_Clone_impl_Host_impl_Host, e_impl_Health_mostRow] h_impl_probed Tryd.f41 [(.vw, (.pair (.int .i64) (.pair (.int .i64) (.pair (.lst false (.pair .str (.pair .bool (.pair (.int .i64) .unit)))) .unit)))), (.vw, (.pair (.int .i64) (.pair .bool .unit)))] false (.pair (.pair (.int .i64) (.pair (.int .i64) (.pair (.lst true (.pair .str (.pair .bool (.pair (.int .i64) .unit)))) .unit))) (.pair .bool .unit))).getD .bot
noncomputable def e_impl_probed : Ent := ⟨41, [(.vw, (.pair (.int .i64) (.pair (.int .i64) (.pair (.lst false (.pair .str (.pair .bool (.pair (.int .i64) .unit)))) .unit)))), (.vw, (.pair (.int .i64) (.pair .bool .unit)))], false, (.pair (.pair (.int .i64) (.pair (.int .i64) (.pair (.lst true (.pair .str (.pair .bool (.pair (.int .i64) .unit)))) .unit))) (.pair .bool .unit)), runPE [e_slices_Clone_impl_Host_impl_Host, e_impl_Health_mostRow] p_impl_probed⟩
theorem ok_impl_probed : e_impl_probed.Ok Tryd.prog := Ent.ok_of (pe := p_impl_probed) (fn := Tryd.f41) (hs := h_impl_probed) envC (ok_cons ok_slices_Clone_impl_Host_impl_Host (ok_cons ok_impl_Health_mostRow ok_nil)) Tryd.func41 (by decide +kernel) (some_getD (d := PE.bot) (by kernel_rfl)) rfl

/-- loop.example/g00300/impl.PlayProbes -/
def h_impl_PlayProbes : List (Nat × Hint) := [(250, .loop ⟨[8, 33, 34], [(11, 2, (.pair (.int .i64) (.pair (.int .i64) (.pair (.lst true (.pair .str (.pair .bool (.pair (.int .i64) .unit)))) .unit)))), (13, 0, (.int .i64)), (35, 0, (.int .i64))]⟩ [(1, ⟨[], [(8, 2, (.pair (.int .i64) (.pair (.int .i64) (.pair (.lst true (.pair .str (.pair .bool (.pair (.int .i64) .unit)))) .unit)))), (9, 0, (.int .i64)), (10, 0, .bool)]⟩), (2, ⟨[8], [(11, 2, (.pair (.int .i64) (.pair (.int .i64) (.pair (.lst true (.pair .str (.pair .bool (.pair (.int .i64) .unit)))) .unit)))), (13, 0, (.int .i64))]⟩)]), (64103, .join [(0, ⟨[8, 11, 16, 33, 34, 35], [(13, 0, (.int .i64))]⟩)]), (14, .join [(0, ⟨[3, 8, 11], [(31, 0, .bool)]⟩)])]
noncomputable def p_impl_PlayProbes : PE := (comp tysC [e_impl_NewHealth, e_impl_within, e_impl_probed] h_impl_PlayProbes Tryd.f8 [(.vw, (.int .i64)), (.vw, (.int .i64)), (.vw, (.lst false .str)), (.vw, (.lst false (.pair (.int .i64) (.pair .bool .unit))))] false (.pair (.pair (.int .i64) (.pair (.int .i64) (.pair (.lst true (.pair .str (.pair .bool (.pair (.int .i64) .unit)))) .unit))) (.pair (.int .i64) (.pair .bool .unit)))).getD .bot
noncomputable def e_impl_PlayProbes : Ent := ⟨8, [(.vw, (.int .i64)), (.vw, (.int .i64)), (.vw, (.lst false .str)), (.vw, (.lst false (.pair (.int .i64) (.pair .bool .unit))))], false, (.pair (.pair (.int .i64) (.pair (.int .i64) (.pair (.lst true (.pair .str (.pair .bool (.pair (.int .i64) .unit)))) .unit))) (.pair (.int .i64) (.pair .bool .unit))), runPE [e_impl_NewHealth, e_impl_within, e_impl_probed] p_impl_PlayProbes⟩
theorem ok_impl_PlayProbes : e_impl_PlayProbes.Ok Tryd.prog := Ent.ok_of (pe := p_impl_PlayProbes) (fn := Tryd.f8) (hs := h_impl_PlayProbes) envC (ok_cons ok_impl_NewHealth (ok_cons ok_impl_within (ok_cons ok_impl_probed ok_nil))) Tryd.func8 (by decide +kernel) (some_getD (d := PE.bot) (by kernel_rfl)) rfl

/-- loop.example/g00300/spec.l1In -/
def h_spec_l1In : List (Nat × Hint) := [(3, .join [(0, ⟨[], [(6, 0, .bool)]⟩)])]
noncomputable def p_spec_l1In : PE := (comp tysC [] h_spec_l1In Tryd.f49 [(.vw, (.int .i64)), (.vw, (.int .i64)), (.vw, (.int .i64))] true .bool).getD .bot
noncomputable def e_spec_l1In : Ent := ⟨49, [(.vw, (.int .i64)), (.vw, (.int .i64)), (.vw, (.int .i64))], true, .bool, runPE [] p_spec_l1In⟩
theorem ok_spec_l1In : e_spec_l1In.Ok Tryd.prog := Ent.ok_of (pe := p_spec_l1In) (fn := Tryd.f49) (hs := h_spec_l1In) envC ok_nil Tryd.func49 (by decide +kernel) (some_getD (d := PE.bot) (by kernel_rfl)) rfl

/-- loop.example/g00300/spec.l1Split -/
def h_spec_l1Split : List (Nat × Hint) := [(122, .loop ⟨[0, 1], [(5, 0, (.lst true .str)), (6, 0, (.int .i64)), (7, 0, (.int .i64))]⟩ [(2, ⟨[0], [(5, 0, (.lst true .str)), (6, 0, (.int .i64))]⟩)]), (489, .join [(0, ⟨[0, 1, 7], [(5, 0, (.lst true .str)), (6, 0, (.int .i64))]⟩)])]
noncomputable def p_spec_l1Split : PE := (comp tysC [] h_spec_l1Split Tryd.f87 [(.vw, .str), (.vw, (.int .u8))] true (.lst true .str)).getD .bot
noncomputable def e_spec_l1Split : Ent := ⟨87, [(.vw, .str), (.vw, (.int .u8))], true, (.lst true .str), runPE [] p_spec_l1Split⟩
theorem ok_spec_l1Split : e_spec_l1Split.Ok Tryd.prog := Ent.ok_of (pe := p_spec_l1Split) (fn := Tryd.f87) (hs := h_spec_l1Split) envC ok_nil Tryd.func87 (by decide +kernel) (some_getD (d := PE.bot) (by kernel_rfl)) rfl

/-- loop.example/g00300/spec.l1Label -/
def h_spec_l1Label : List (Nat × Hint) := [(58, .loop ⟨[0], [(3, 0, (.int .i64))]⟩ [(1, ⟨[2], []⟩), (2, ⟨[0], []⟩)]), (1865, .join [(0, ⟨[0, 3], [(38, 0, .bool)]⟩)])]
noncomputable def p_spec_l1Label : PE := (comp tysC [e_spec_l1In] h_spec_l1Label Tryd.f88 [(.vw, .str)] true .bool).getD .bot
noncomputable def e_spec_l1Label : Ent := ⟨88, [(.vw, .str)], true, .bool, runPE [e_spec_l1In] p_spec_l1Label⟩
theorem ok_spec_l1Label : e_spec_l1Label.Ok Tryd.prog := Ent.ok_of (pe := p_spec_l1Label) (fn := Tryd.f88) (hs := h_spec_l1Label) envC (ok_cons ok_spec_l1In ok_nil) Tryd.func88 (by decide +kernel) (some_getD (d := PE.bot) (by kernel_rfl)) rfl

/-- loop.example/g00300/spec.l1Labels -/
def h_spec_l1Labels : List (Nat × Hint) := [(31, .join [(0, ⟨[], [(2, 0, (.lst true .str)), (3, 0, .bool)]⟩)]), (122, .loop ⟨[0, 4, 11, 12], [(13, 0, (.int .i64))]⟩ [(1, ⟨[2, 3], []⟩), (2, ⟨[0, 4], []⟩)])]
noncomputable def p_spec_l1Labels : PE := (comp tysC [e_spec_l1Split, e_spec_l1Label] h_spec_l1Labels Tryd.f78 [(.vw, .str)] false (.pair (.lst true .str) (.pair .bool .unit))).getD .bot
noncomputable def e_spec_l1Labels : Ent := ⟨78, [(.vw, .str)], false, (.pair (.lst true .str) (.pair .bool .unit)), runPE [e_spec_l1Split, e_spec_l1Label] p_spec_l1Labels⟩
theorem ok_spec_l1Labels : e_spec_l1Labels.Ok Tryd.prog := Ent.ok_of (pe := p_spec_l1Labels) (fn := Tryd.f78) (hs := h_spec_l1Labels) envC (ok_cons ok_spec_l1Split (ok_cons ok_spec_l1Label ok_nil)) Tryd.func78 (by decide +kernel) (some_getD (d := PE.bot) (by kernel_rfl)) rfl

/-- loop.example/g00300/spec.GoodName -/
def h_spec_GoodName : List (Nat × Hint) := []
noncomputable def p_spec_GoodName : PE := (comp tysC [e_spec_l1Labels] h_spec_GoodName Tryd.f74 [(.vw, .str)] true .bool).getD .bot
noncomputable def e_spec_GoodName : Ent := ⟨74, [(.vw, .str)], true, .bool, runPE [e_spec_l1Labels] p_spec_GoodName⟩
theorem ok_spec_GoodName : e_spec_GoodName.Ok Tryd.prog := Ent.ok_of (pe := p_spec_GoodName) (fn := Tryd.f74) (hs := h_spec_GoodName) envC (ok_cons ok_spec_l1Labels ok_nil) Tryd.func74 (by decide +kernel) (some_getD (d := PE.bot) (by kernel_rfl)) rfl

/-- loop.example/g00300/spec.l13Names -/
def h_spec_l13Names : List (Nat × Hint) := [(26, .loop ⟨[0, 7, 8], [(9, 0, (.int .i64))]⟩ [(1, ⟨[], [(2, 0, .bool)]⟩), (2, ⟨[0], []⟩)]), (13518, .loop ⟨[0, 4, 7, 8, 9, 23, 24], [(25, 0, (.int .i64))]⟩ [(1, ⟨[], [(2, 0, .bool)]⟩), (4, ⟨[0, 7, 8, 9], []⟩)]), (3378, .join [(0, ⟨[0, 3, 4, 7, 8, 9], [(20, 0, .bool)]⟩)])]
noncomputable def p_spec_l13Names : PE := (comp tysC [e_spec_GoodName, e_spec_l1In] h_spec_l13Names Tryd.f58 [(.vw, (.lst false .str))] true .bool).getD .bot
noncomputable def e_spec_l13Names : Ent := ⟨58, [(.vw, (.lst false .str))], true, .bool, runPE [e_spec_GoodName, e_spec_l1In] p_spec_l13Names⟩
theorem ok_spec_l13Names : e_spec_l13Names.Ok Tryd.prog := Ent.ok_of (pe := p_spec_l13Names) (fn := Tryd.f58) (hs := h_spec_l13Names) envC (ok_cons ok_spec_GoodName (ok_cons ok_spec_l1In ok_nil)) Tryd.func58 (by decide +kernel) (some_getD (d := PE.bot) (by kernel_rfl)) rfl

/-- loop.example/g00300/spec.NewHealth -/
def h_spec_NewHealth : List (Nat × Hint) := [(122, .loop ⟨[6, 28, 29], [(8, 2, (.pair (.int .i64) (.pair (.int .i64) (.pair (.lst true (.pair .str (.pair .bool (.pair (.int .i64) .unit)))) .unit)))), (30, 0, (.int .i64))]⟩ [(2, ⟨[6], [(8, 2, (.pair (.int .i64) (.pair (.int .i64) (.pair (.lst true (.pair .str (.pair .bool (.pair (.int .i64) .unit)))) .unit))))]⟩)]), (6, .join [(0, ⟨[0, 1, 2, 6], [(23, 0, .bool)]⟩)])]
noncomputable def p_spec_NewHealth : PE := (comp tysC [e_spec_l1In, e_spec_l13Names] h_spec_NewHealth Tryd.f42 [(.vw, (.int .i64)), (.vw, (.int .i64)), (.vw, (.lst false .str))] false (.pair (.pair (.int .i64) (.pair (.int .i64) (.pair (.lst true (.pair .str (.pair .bool (.pair (.int .i64) .unit)))) .unit))) (.pair .bool .unit))).getD .bot
noncomputable def e_spec_NewHealth : Ent := ⟨42, [(.vw, (.int .i64)), (.vw, (.int .i64)), (.vw, (.lst false .str))], false, (.pair (.pair (.int .i64) (.pair (.int .i64) (.pair (.lst true (.pair .str (.pair .bool (.pair (.int .i64) .unit)))) .unit))) (.pair .bool .unit)), runPE [e_spec_l1In, e_spec_l13Names] p_spec_NewHealth⟩
theorem ok_spec_NewHealth : e_spec_NewHealth.Ok Tryd.prog := Ent.ok_of (pe := p_spec_NewHealth) (fn := Tryd.f42) (hs := h_spec_NewHealth) envC (ok_cons ok_spec_l1In (ok_cons ok_spec_l13Names ok_nil)) Tryd.func42 (by decide +kernel) (some_getD (d := PE.bot) (by kernel_rfl)) rfl

/-- loop.example/g00300/spec.l13Most -/
def h_spec_l13Most : List (Nat × Hint) := []
noncomputable def p_spec_l13Most : PE := (comp tysC [] h_spec_l13Most Tryd.f51 [(.vw, (.pair (.int .i64) (.pair (.int .i64) (.pair (.lst false (.pair .str (.pair .bool (.pair (.int .i64) .unit)))) .unit)))), (.vw, (.pair .str (.pair .bool (.pair (.int .i64) .unit))))] true (.int .i64)).getD .bot
noncomputable def e_spec_l13Most : Ent := ⟨51, [(.vw, (.pair (.int .i64) (.pair (.int .i64) (.pair (.lst false (.pair .str (.pair .bool (.pair (.int .i64) .unit)))) .unit)))), (.vw, (.pair .str (.pair .bool (.pair (.int .i64) .unit))))], true, (.int .i64), runPE [] p_spec_l13Most⟩
theorem ok_spec_l13Most : e_spec_l13Most.Ok Tryd.prog := Ent.ok_of (pe := p_spec_l13Most) (fn := Tryd.f51) (hs := h_spec_l13Most) envC ok_nil Tryd.func51 (by decide +kernel) (some_getD (d := PE.bot) (by kernel_rfl)) rfl

/-- loop.example/g00300/spec.GoodHealth -/
def h_spec_GoodHealth : List (Nat × Hint) := [(15, .join [(0, ⟨[], [(2, 0, .bool)]⟩)]), (58, .loop ⟨[1, 7, 8], [(3, 0, (.lst true .str)), (9, 0, (.int .i64))]⟩ [(1, ⟨[2], []⟩), (2, ⟨[1], [(3, 0, (.lst true .str))]⟩)])]
noncomputable def p_spec_GoodHealth : PE := (comp tysC [e_spec_l13Most, e_spec_l1In, e_spec_l13Names] h_spec_GoodHealth Tryd.f23 [(.vw, (.pair (.int .i64) (.pair (.int .i64) (.pair (.lst false (.pair .str (.pair .bool (.pair (.int .i64) .unit)))) .unit))))] true .bool).getD .bot
noncomputable def e_spec_GoodHealth : Ent := ⟨23, [(.vw, (.pair (.int .i64) (.pair (.int .i64) (.pair (.lst false (.pair .str (.pair .bool (.pair (.int .i64) .unit)))) .unit))))], true, .bool, runPE [e_spec_l13Most, e_spec_l1In, e_spec_l13Names] p_spec_GoodHealth⟩
theorem ok_spec_GoodHealth : e_spec_GoodHealth.Ok Tryd.prog := Ent.ok_of (pe := p_spec_GoodHealth) (fn := Tryd.f23) (hs := h_spec_GoodHealth) envC (ok_cons ok_spec_l13Most (ok_cons ok_spec_l1In (ok_cons ok_spec_l13Names ok_nil))) Tryd.func23 (by decide +kernel) (some_getD (d := PE.bot) (by kernel_rfl)) rfl

/-- loop.example/g00300/spec.l13Own -/
def h_spec_l13Own : List (Nat × Hint) := []
noncomputable def p_spec_l13Own : PE := (comp tysC [] h_spec_l13Own Tryd.f50 [(.vw, (.pair (.int .i64) (.pair (.int .i64) (.pair (.lst false (.pair .str (.pair .bool (.pair (.int .i64) .unit)))) .unit))))] true (.pair (.int .i64) (.pair (.int .i64) (.pair (.lst true (.pair .str (.pair .bool (.pair (.int .i64) .unit)))) .unit)))).getD .bot
noncomputable def e_spec_l13Own : Ent := ⟨50, [(.vw, (.pair (.int .i64) (.pair (.int .i64) (.pair (.lst false (.pair .str (.pair .bool (.pair (.int .i64) .unit)))) .unit))))], true, (.pair (.int .i64) (.pair (.int .i64) (.pair (.lst true (.pair .str (.pair .bool (.pair (.int .i64) .unit)))) .unit))), runPE [] p_spec_l13Own⟩
theorem ok_spec_l13Own : e_spec_l13Own.Ok Tryd.prog := Ent.ok_of (pe := p_spec_l13Own) (fn := Tryd.f50) (hs := h_spec_l13Own) envC ok_nil Tryd.func50 (by decide +kernel) (some_getD (d := PE.bot) (by kernel_rfl)) rfl

/-- loop.example/g00300/spec.TakeProbe -/
def h_spec_TakeProbe : List (Nat × Hint) := [(6, .join [(0, ⟨[2, 3, 4], [(20, 0, .bool)]⟩)])]
noncomputable def p_spec_TakeProbe : PE := (comp tysC [e_spec_GoodHealth, e_spec_l1In, e_spec_l13Own, e_spec_l13Most] h_spec_TakeProbe Tryd.f15 [(.vw, (.pair (.int .i64) (.pair (.int .i64) (.pair (.lst false (.pair .str (.pair .bool (.pair (.int .i64) .unit)))) .unit)))), (.vw, (.pair (.int .i64) (.pair .bool .unit)))] false (.pair (.pair (.int .i64) (.pair (.int .i64) (.pair (.lst true (.pair .str (.pair .bool (.pair (.int .i64) .unit)))) .unit))) (.pair .bool (.pair .bool .unit)))).getD .bot
noncomputable def e_spec_TakeProbe : Ent := ⟨15, [(.vw, (.pair (.int .i64) (.pair (.int .i64) (.pair (.lst false (.pair .str (.pair .bool (.pair (.int .i64) .unit)))) .unit)))), (.vw, (.pair (.int .i64) (.pair .bool .unit)))], false, (.pair (.pair (.int .i64) (.pair (.int .i64) (.pair (.lst true (.pair .str (.pair .bool (.pair (.int .i64) .unit)))) .unit))) (.pair .bool (.pair .bool .unit))), runPE [e_spec_GoodHealth, e_spec_l1In, e_spec_l13Own, e_spec_l13Most] p_spec_TakeProbe⟩
theorem ok_spec_TakeProbe : e_spec_TakeProbe.Ok Tryd.prog := Ent.ok_of (pe := p_spec_TakeProbe) (fn := Tryd.f15) (hs := h_spec_TakeProbe) envC (ok_cons ok_spec_GoodHealth (ok_cons ok_spec_l1In (ok_cons ok_spec_l13Own (ok_cons ok_spec_l13Most ok_nil)))) Tryd.func15 (by decide +kernel) (some_getD (d := PE.bot) (by kernel_rfl)) rfl

/-- loop.example/g00300/spec.PlayProbes -/
def h_spec_PlayProbes : List (Nat × Hint) := [(250, .loop ⟨[8, 34, 35], [(11, 2, (.pair (.int .i64) (.pair (.int .i64) (.pair (.lst true (.pair .str (.pair .bool (.pair (.int .i64) .unit)))) .unit)))), (13, 0, (.int .i64)), (36, 0, (.int .i64))]⟩ [(1, ⟨[], [(8, 2, (.pair (.int .i64) (.pair (.int .i64) (.pair (.lst true (.pair .str (.pair .bool (.pair (.int .i64) .unit)))) .unit)))), (9, 0, (.int .i64)), (10, 0, .bool)]⟩), (2, ⟨[8], [(11, 2, (.pair (.int .i64) (.pair (.int .i64) (.pair (.lst true (.pair .str (.pair .bool (.pair (.int .i64) .unit)))) .unit)))), (13, 0, (.int .i64))]⟩)]), (2003, .join [(0, ⟨[8, 34, 35, 36], [(11, 2, (.pair (.int .i64) (.pair (.int .i64) (.pair (.lst true (.pair .str (.pair .bool (.pair (.int .i64) .unit)))) .unit)))), (13, 0, (.int .i64))]⟩), (1, ⟨[], [(8, 2, (.pair (.int .i64) (.pair (.int .i64) (.pair (.lst true (.pair .str (.pair .bool (.pair (.int .i64) .unit)))) .unit)))), (9, 0, (.int .i64)), (10, 0, .bool)]⟩)]), (14, .join [(0, ⟨[3, 8, 11], [(32, 0, .bool)]⟩)])]
noncomputable def p_spec_PlayProbes : PE := (comp tysC [e_spec_NewHealth, e_spec_TakeProbe] h_spec_PlayProbes Tryd.f9 [(.vw, (.int .i64)), (.vw, (.int .i64)), (.vw, (.lst false .str)), (.vw, (.lst false (.pair (.int .i64) (.pair .bool .unit))))] false (.pair (.pair (.int .i64) (.pair (.int .i64) (.pair (.lst true (.pair .str (.pair .bool (.pair (.int .i64) .unit)))) .unit))) (.pair (.int .i64) (.pair .bool .unit)))).getD .bot
noncomputable def e_spec_PlayProbes : Ent := ⟨9, [(.vw, (.int .i64)), (.vw, (.int .i64)), (.vw, (.lst false .str)), (.vw, (.lst false (.pair (.int .i64) (.pair .bool .unit))))], false, (.pair (.pair (.int .i64) (.pair (.int .i64) (.pair (.lst true (.pair .str (.pair .bool (.pair (.int .i64) .unit)))) .unit))) (.pair (.int .i64) (.pair .bool .unit))), runPE [e_spec_NewHealth, e_spec_TakeProbe] p_spec_PlayProbes⟩
theorem ok_spec_PlayProbes : e_spec_PlayProbes.Ok Tryd.prog := Ent.ok_of (pe := p_spec_PlayProbes) (fn := Tryd.f9) (hs := h_spec_PlayProbes) envC (ok_cons ok_spec_NewHealth (ok_cons ok_spec_TakeProbe ok_nil)) Tryd.func9 (by decide +kernel) (some_getD (d := PE.bot) (by kernel_rfl)) rfl

/-- loop.example/g00300/laws.sameHealths -/
def h_laws_sameHealths : List (Nat × Hint) := [(58, .loop ⟨[2, 3, 29], [(30, 0, (.int .i64))]⟩ [(1, ⟨[], [(4, 0, .bool)]⟩), (2, ⟨[], []⟩)]), (6, .join [(0, ⟨[2, 3], [(26, 0, .bool)]⟩)])]
noncomputable def p_laws_sameHealths : PE := (comp tysC [] h_laws_sameHealths Tryd.f10 [(.vw, (.pair (.int .i64) (.pair (.int .i64) (.pair (.lst false (.pair .str (.pair .bool (.pair (.int .i64) .unit)))) .unit)))), (.vw, (.pair (.int .i64) (.pair (.int .i64) (.pair (.lst false (.pair .str (.pair .bool (.pair (.int .i64) .unit)))) .unit))))] true .bool).getD .bot
noncomputable def e_laws_sameHealths : Ent := ⟨10, [(.vw, (.pair (.int .i64) (.pair (.int .i64) (.pair (.lst false (.pair .str (.pair .bool (.pair (.int .i64) .unit)))) .unit)))), (.vw, (.pair (.int .i64) (.pair (.int .i64) (.pair (.lst false (.pair .str (.pair .bool (.pair (.int .i64) .unit)))) .unit))))], true, .bool, runPE [] p_laws_sameHealths⟩
theorem ok_laws_sameHealths : e_laws_sameHealths.Ok Tryd.prog := Ent.ok_of (pe := p_laws_sameHealths) (fn := Tryd.f10) (hs := h_laws_sameHealths) envC ok_nil Tryd.func10 (by decide +kernel) (some_getD (d := PE.bot) (by kernel_rfl)) rfl

/-- loop.example/g00300/impl.RowOf -/
def h_impl_RowOf : List (Nat × Hint) := [(6, .join [(0, ⟨[1, 2], [(17, 0, .bool)]⟩)])]
noncomputable def p_impl_RowOf : PE := (comp tysC [e_impl_GoodHealth, e_impl_within] h_impl_RowOf Tryd.f11 [(.vw, (.pair (.int .i64) (.pair (.int .i64) (.pair (.lst false (.pair .str (.pair .bool (.pair (.int .i64) .unit)))) .unit)))), (.vw, (.int .i64))] false (.pair (.int .i64) (.pair .bool .unit))).getD .bot
noncomputable def e_impl_RowOf : Ent := ⟨11, [(.vw, (.pair (.int .i64) (.pair (.int .i64) (.pair (.lst false (.pair .str (.pair .bool (.pair (.int .i64) .unit)))) .unit)))), (.vw, (.int .i64))], false, (.pair (.int .i64) (.pair .bool .unit)), runPE [e_impl_GoodHealth, e_impl_within] p_impl_RowOf⟩
theorem ok_impl_RowOf : e_impl_RowOf.Ok Tryd.prog := Ent.ok_of (pe := p_impl_RowOf) (fn := Tryd.f11) (hs := h_impl_RowOf) envC (ok_cons ok_impl_GoodHealth (ok_cons ok_impl_within ok_nil)) Tryd.func11 (by decide +kernel) (some_getD (d := PE.bot) (by kernel_rfl)) rfl

/-- (loop.example/g00300/impl.Health).findHost$1 -/
def h_impl_Health_findHost_1 : List (Nat × Hint) := []
noncomputable def p_impl_Health_findHost_1 : PE := (comp tysC [] h_impl_Health_findHost_1 Tryd.f66 [(.vw, (.pair .str (.pair .bool (.pair (.int .i64) .unit)))), (.vw, (.ptr .str))] true .bool).getD .bot
noncomputable def e_impl_Health_findHost_1 : Ent := ⟨66, [(.vw, (.pair .str (.pair .bool (.pair (.int .i64) .unit)))), (.vw, (.ptr .str))], true, .bool, runPE [] p_impl_Health_findHost_1⟩
theorem ok_impl_Health_findHost_1 : e_impl_Health_findHost_1.Ok Tryd.prog := Ent.ok_of (pe := p_impl_Health_findHost_1) (fn := Tryd.f66) (hs := h_impl_Health_findHost_1) envC ok_nil Tryd.func66 (by decide +kernel) (some_getD (d := PE.bot) (by kernel_rfl)) rfl

/-- slices.IndexFunc[[]loop.example/g00300/impl.Host,loop.example/g00300/impl.Host] -/
def h_slices_IndexFunc_impl_Host_impl_Host__impl_Health_findHost_1 : List (Nat × Hint) := [(26, .loop ⟨[0, 1, 7], [(8, 0, (.int .i64))]⟩ [(1, ⟨[], [(4, 0, (.int .i64))]⟩), (2, ⟨[], []⟩)])]
noncomputable def p_slices_IndexFunc_impl_Host_impl_Host__impl_Health_findHost_1 : PE := (comp tysC [e_impl_Health_findHost_1] h_slices_IndexFunc_impl_Host_impl_Host__impl_Health_findHost_1 Tryd.f65 [(.vw, (.lst false (.pair .str (.pair .bool (.pair (.int .i64) .unit))))), (.vw, (.fn 66 (.pair (.ptr .str) .unit)))] true (.int .i64)).getD .bot
noncomputable def e_slices_IndexFunc_impl_Host_impl_Host__impl_Health_findHost_1 : Ent := ⟨65, [(.vw, (.lst false (.pair .str (.pair .bool (.pair (.int .i64) .unit))))), (.vw, (.fn 66 (.pair (.ptr .str) .unit)))], true, (.int .i64), runPE [e_impl_Health_findHost_1] p_slices_IndexFunc_impl_Host_impl_Host__impl_Health_findHost_1⟩
theorem ok_slices_IndexFunc_impl_Host_impl_Host__impl_Health_findHost_1 : e_slices_IndexFunc_impl_Host_impl_Host__impl_Health_findHost_1.Ok Tryd.prog := Ent.ok_of (pe := p_slices_IndexFunc_impl_Host_impl_Host__impl_Health_findHost_1) (fn := Tryd.f65) (hs := h_slices_IndexFunc_impl_Host_impl_Host__impl_Health_findHost_1) envC (ok_cons ok_impl_Health_findHost_1 ok_nil) Tryd.func65 (by decide +kernel) (some_getD (d := PE.bot) (by kernel_rfl)) rfl

/-- (loop.example/g00300/impl.Health).findHost -/
def h_impl_Health_findHost : List (Nat × Hint) := []
noncomputable def p_impl_Health_findHost : PE := (comp tysC [e_slices_IndexFunc_impl_Host_impl_Host__impl_Health_findHost_1] h_impl_Health_findHost Tryd.f43 [(.vw, (.pair (.int .i64) (.pair (.int .i64) (.pair (.lst false (.pair .str (.pair .bool (.pair (.int .i64) .unit)))) .unit)))), (.vw, .str)] true (.int .i64)).getD .bot
noncomputable def e_impl_Health_findHost : Ent := ⟨43, [(.vw, (.pair (.int .i64) (.pair (.int .i64) (.pair (.lst false (.pair .str (.pair .bool (.pair (.int .i64) .unit)))) .unit)))), (.vw, .str)], true, (.int .i64), runPE [e_slices_IndexFunc_impl_Host_impl_Host__impl_Health_findHost_1] p_impl_Health_findHost⟩
theorem ok_impl_Health_findHost : e_impl_Health_findHost.Ok Tryd.prog := Ent.ok_of (pe := p_impl_Health_findHost) (fn := Tryd.f43) (hs := h_impl_Health_findHost) envC (ok_cons ok_slices_IndexFunc_impl_Host_impl_Host__impl_Health_findHost_1 ok_nil) Tryd.func43 (by decide +kernel) (some_getD (d := PE.bot) (by kernel_rfl)) rfl

/-- loop.example/g00300/impl.IsUp -/
def h_impl_IsUp : List (Nat × Hint) := []
noncomputable def p_impl_IsUp : PE := (comp tysC [e_impl_GoodHealth, e_impl_Health_findHost] h_impl_IsUp Tryd.f12 [(.vw, (.pair (.int .i64) (.pair (.int .i64) (.pair (.lst false (.pair .str (.pair .bool (.pair (.int .i64) .unit)))) .unit)))), (.vw, .str)] false (.pair .bool (.pair .bool .unit))).getD .bot
noncomputable def e_impl_IsUp : Ent := ⟨12, [(.vw, (.pair (.int .i64) (.pair (.int .i64) (.pair (.lst false (.pair .str (.pair .bool (.pair (.int .i64) .unit)))) .unit)))), (.vw, .str)], false, (.pair .bool (.pair .bool .unit)), runPE [e_impl_GoodHealth, e_impl_Health_findHost] p_impl_IsUp⟩
theorem ok_impl_IsUp : e_impl_IsUp.Ok Tryd.prog := Ent.ok_of (pe := p_impl_IsUp) (fn := Tryd.f12) (hs := h_impl_IsUp) envC (ok_cons ok_impl_GoodHealth (ok_cons ok_impl_Health_findHost ok_nil)) Tryd.func12 (by decide +kernel) (some_getD (d := PE.bot) (by kernel_rfl)) rfl

/-- loop.example/g00300/laws.FnRows -/
def h_laws_FnRows : List (Nat × Hint) := [(1023, .join [(0, ⟨[], [(2, 0, .bool)]⟩)]), (4090, .loop ⟨[3, 4, 6, 7, 8, 73, 74], [(13, 0, (.int .i64)), (75, 0, (.int .i64))]⟩ [(1, ⟨[], [(2, 0, .bool)]⟩), (2, ⟨[7, 8], [(13, 0, (.int .i64))]⟩)]), (8377151, .join [(0, ⟨[3, 4, 6, 7, 8, 13, 73, 74, 75], [(144, 0, .bool)]⟩)]), (8377146, .loop ⟨[3, 4, 6, 7, 8, 14, 15, 73, 74, 75, 80, 81], [(13, 0, (.int .i64)), (16, 0, .bool), (17, 0, (.int .i64)), (82, 0, (.int .i64))]⟩ [(4, ⟨[3, 4, 6, 7, 8, 14, 15, 73, 74, 75], [(13, 0, (.int .i64)), (16, 0, .bool), (17, 0, (.int .i64))]⟩)]), (67017171, .join [(0, ⟨[3, 4, 6, 7, 8, 14, 15, 73, 74, 75, 80, 81, 82], [(13, 0, (.int .i64)), (16, 0, .bool), (17, 0, (.int .i64))]⟩)]), (4289098959, .join [(0, ⟨[3, 4, 6, 7, 8, 13, 14, 15, 16, 17, 73, 74, 75, 80, 81, 82], [(110, 0, .bool)]⟩)]), (126, .join [(0, ⟨[3, 4, 6, 7, 8, 9], [(65, 0, .bool)]⟩)])]
noncomputable def p_laws_FnRows : PE := (comp tysC [e_spec_DrawPlayProbes, e_impl_PlayProbes, e_spec_PlayProbes, e_laws_sameHealths, e_impl_RowOf, e_impl_IsUp, e_impl_GoodHealth] h_laws_FnRows Tryd.f3 [(.vw, (.lst false (.int .u8)))] true .bool).getD .bot
noncomputable def e_laws_FnRows : Ent := ⟨3, [(.vw, (.lst false (.int .u8)))], true, .bool, runPE [e_spec_DrawPlayProbes, e_impl_PlayProbes, e_spec_PlayProbes, e_laws_sameHealths, e_impl_RowOf, e_impl_IsUp, e_impl_GoodHealth] p_laws_FnRows⟩
theorem ok_laws_FnRows : e_laws_FnRows.Ok Tryd.prog := Ent.ok_of (pe := p_laws_FnRows) (fn := Tryd.f3) (hs := h_laws_FnRows) envC (ok_cons ok_spec_DrawPlayProbes (ok_cons ok_impl_PlayProbes (ok_cons ok_spec_PlayProbes (ok_cons ok_laws_sameHealths (ok_cons ok_impl_RowOf (ok_cons ok_impl_IsUp (ok_cons ok_impl_GoodHealth ok_nil))))))) Tryd.func3 (by decide +kernel) (some_getD (d := PE.bot) (by kernel_rfl)) rfl

/-- loop.example/g00300/laws.szHost -/
def h_laws_szHost : List (Nat × Hint) := []
noncomputable def p_laws_szHost : PE := (comp tysC [] h_laws_szHost Tryd.f71 [(.vw, (.pair .str (.pair .bool (.pair (.int .i64) .unit)))), (.vw, (.int .i64))] true (.int .i64)).getD .bot
noncomputable def e_laws_szHost : Ent := ⟨71, [(.vw, (.pair .str (.pair .bool (.pair (.int .i64) .unit)))), (.vw, (.int .i64))], true, (.int .i64), runPE [] p_laws_szHost⟩
theorem ok_laws_szHost : e_laws_szHost.Ok Tryd.prog := Ent.ok_of (pe := p_laws_szHost) (fn := Tryd.f71) (hs := h_laws_szHost) envC ok_nil Tryd.func71 (by decide +kernel) (some_getD (d := PE.bot) (by kernel_rfl)) rfl

/-- loop.example/g00300/laws.szHostS -/
def h_laws_szHostS : List (Nat × Hint) := [(122, .loop ⟨[0], [(1, 0, (.int .i64)), (5, 0, (.int .i64))]⟩ [(1, ⟨[], [(4, 0, (.int .i64))]⟩), (2, ⟨[], [(1, 0, (.int .i64))]⟩)])]
noncomputable def p_laws_szHostS : PE := (comp tysC [e_laws_szHost] h_laws_szHostS Tryd.f48 [(.vw, (.lst false (.pair .str (.pair .bool (.pair (.int .i64) .unit))))), (.vw, (.int .i64))] true (.int .i64)).getD .bot
noncomputable def e_laws_szHostS : Ent := ⟨48, [(.vw, (.lst false (.pair .str (.pair .bool (.pair (.int .i64) .unit))))), (.vw, (.int .i64))], true, (.int .i64), runPE [e_laws_szHost] p_laws_szHostS⟩
theorem ok_laws_szHostS : e_laws_szHostS.Ok Tryd.prog := Ent.ok_of (pe := p_laws_szHostS) (fn := Tryd.f48) (hs := h_laws_szHostS) envC (ok_cons ok_laws_szHost ok_nil) Tryd.func48 (by decide +kernel) (some_getD (d := PE.bot) (by kernel_rfl)) rfl

/-- loop.example/g00300/laws.szHealth -/
def h_laws_szHealth : List (Nat × Hint) := []
noncomputable def p_laws_szHealth : PE := (comp tysC [e_laws_szHostS] h_laws_szHealth Tryd.f14 [(.vw, (.pair (.int .i64) (.pair (.int .i64) (.pair (.lst false (.pair .str (.pair .bool (.pair (.int .i64) .unit)))) .unit)))), (.vw, (.int .i64))] true (.int .i64)).getD .bot
noncomputable def e_laws_szHealth : Ent := ⟨14, [(.vw, (.pair (.int .i64) (.pair (.int .i64) (.pair (.lst false (.pair .str (.pair .bool (.pair (.int .i64) .unit)))) .unit)))), (.vw, (.int .i64))], true, (.int .i64), runPE [e_laws_szHostS] p_laws_szHealth⟩
theorem ok_laws_szHealth : e_laws_szHealth.Ok Tryd.prog := Ent.ok_of (pe := p_laws_szHealth) (fn := Tryd.f14) (hs := h_laws_szHealth) envC (ok_cons ok_laws_szHostS ok_nil) Tryd.func14 (by decide +kernel) (some_getD (d := PE.bot) (by kernel_rfl)) rfl

/-- loop.example/g00300/laws.toHost -/
def h_laws_toHost : List (Nat × Hint) := []
noncomputable def p_laws_toHost : PE := (comp tysC [] h_laws_toHost Tryd.f72 [(.vw, (.pair .str (.pair .bool (.pair (.int .i64) .unit))))] true (.pair .str (.pair .bool (.pair (.int .i64) .unit)))).getD .bot
noncomputable def e_laws_toHost : Ent := ⟨72, [(.vw, (.pair .str (.pair .bool (.pair (.int .i64) .unit))))], true, (.pair .str (.pair .bool (.pair (.int .i64) .unit))), runPE [] p_laws_toHost⟩
theorem ok_laws_toHost : e_laws_toHost.Ok Tryd.prog := Ent.ok_of (pe := p_laws_toHost) (fn := Tryd.f72) (hs := h_laws_toHost) envC ok_nil Tryd.func72 (by decide +kernel) (some_getD (d := PE.bot) (by kernel_rfl)) rfl

/-- loop.example/g00300/laws.toHostS -/
def h_laws_toHostS : List (Nat × Hint) := [(58, .loop ⟨[0], [(3, 0, (.lst true (.pair .str (.pair .bool (.pair (.int .i64) .unit))))), (4, 0, (.int .i64))]⟩ [(2, ⟨[], [(3, 0, (.lst true (.pair .str (.pair .bool (.pair (.int .i64) .unit)))))]⟩)]), (0, .frz [2])]
noncomputable def p_laws_toHostS : PE := (comp tysC [e_laws_toHost] h_laws_toHostS Tryd.f52 [(.vw, (.lst false (.pair .str (.pair .bool (.pair (.int .i64) .unit)))))] true (.lst true (.pair .str (.pair .bool (.pair (.int .i64) .unit))))).getD .bot
noncomputable def e_laws_toHostS : Ent := ⟨52, [(.vw, (.lst false (.pair .str (.pair .bool (.pair (.int .i64) .unit)))))], true, (.lst true (.pair .str (.pair .bool (.pair (.int .i64) .unit)))), runPE [e_laws_toHost] p_laws_toHostS⟩
theorem ok_laws_toHostS : e_laws_toHostS.Ok Tryd.prog := Ent.ok_of (pe := p_laws_toHostS) (fn := Tryd.f52) (hs := h_laws_toHostS) envC (ok_cons ok_laws_toHost ok_nil) Tryd.func52 (by decide +kernel) (some_getD (d := PE.bot) (by kernel_rfl)) rfl

/-- loop.example/g00300/laws.toHealth -/
def h_laws_toHealth : List (Nat × Hint) := []
noncomputable def p_laws_toHealth : PE := (comp tysC [e_laws_toHostS] h_laws_toHealth Tryd.f16 [(.vw, (.pair (.int .i64) (.pair (.int .i64) (.pair (.lst false (.pair .str (.pair .bool (.pair (.int .i64) .unit)))) .unit))))] true (.pair (.int .i64) (.pair (.int .i64) (.pair (.lst true (.pair .str (.pair .bool (.pair (.int .i64) .unit)))) .unit)))).getD .bot
noncomputable def e_laws_toHealth : Ent := ⟨16, [(.vw, (.pair (.int .i64) (.pair (.int .i64) (.pair (.lst false (.pair .str (.pair .bool (.pair (.int .i64) .unit)))) .unit))))], true, (.pair (.int .i64) (.pair (.int .i64) (.pair (.lst true (.pair .str (.pair .bool (.pair (.int .i64) .unit)))) .unit))), runPE [e_laws_toHostS] p_laws_toHealth⟩
theorem ok_laws_toHealth : e_laws_toHealth.Ok Tryd.prog := Ent.ok_of (pe := p_laws_toHealth) (fn := Tryd.f16) (hs := h_laws_toHealth) envC (ok_cons ok_laws_toHostS ok_nil) Tryd.func16 (by decide +kernel) (some_getD (d := PE.bot) (by kernel_rfl)) rfl

/-- loop.example/g00300/laws.toProbe -/
def h_laws_toProbe : List (Nat × Hint) := []
noncomputable def p_laws_toProbe : PE := (comp tysC [] h_laws_toProbe Tryd.f17 [(.vw, (.pair (.int .i64) (.pair .bool .unit)))] true (.pair (.int .i64) (.pair .bool .unit))).getD .bot
noncomputable def e_laws_toProbe : Ent := ⟨17, [(.vw, (.pair (.int .i64) (.pair .bool .unit)))], true, (.pair (.int .i64) (.pair .bool .unit)), runPE [] p_laws_toProbe⟩
theorem ok_laws_toProbe : e_laws_toProbe.Ok Tryd.prog := Ent.ok_of (pe := p_laws_toProbe) (fn := Tryd.f17) (hs := h_laws_toProbe) envC ok_nil Tryd.func17 (by decide +kernel) (some_getD (d := PE.bot) (by kernel_rfl)) rfl

/-- loop.example/g00300/impl.TakeProbe -/
def h_impl_TakeProbe : List (Nat × Hint) := [(6, .join [(0, ⟨[2, 3, 4], [(21, 0, .bool)]⟩)])]
noncomputable def p_impl_TakeProbe : PE := (comp tysC [e_impl_GoodHealth, e_impl_within, e_impl_probed] h_impl_TakeProbe Tryd.f18 [(.vw, (.pair (.int .i64) (.pair (.int .i64) (.pair (.lst false (.pair .str (.pair .bool (.pair (.int .i64) .unit)))) .unit)))), (.vw, (.pair (.int .i64) (.pair .bool .unit)))] false (.pair (.pair (.int .i64) (.pair (.int .i64) (.pair (.lst true (.pair .str (.pair .bool (.pair (.int .i64) .unit)))) .unit))) (.pair .bool (.pair .bool .unit)))).getD .bot
noncomputable def e_impl_TakeProbe : Ent := ⟨18, [(.vw, (.pair (.int .i64) (.pair (.int .i64) (.pair (.lst false (.pair .str (.pair .bool (.pair (.int .i64) .unit)))) .unit)))), (.vw, (.pair (.int .i64) (.pair .bool .unit)))], false, (.pair (.pair (.int .i64) (.pair (.int .i64) (.pair (.lst true (.pair .str (.pair .bool (.pair (.int .i64) .unit)))) .unit))) (.pair .bool (.pair .bool .unit))), runPE [e_impl_GoodHealth, e_impl_within, e_impl_probed] p_impl_TakeProbe⟩
theorem ok_impl_TakeProbe : e_impl_TakeProbe.Ok Tryd.prog := Ent.ok_of (pe := p_impl_TakeProbe) (fn := Tryd.f18) (hs := h_impl_TakeProbe) envC (ok_cons ok_impl_GoodHealth (ok_cons ok_impl_within (ok_cons ok_impl_probed ok_nil))) Tryd.func18 (by decide +kernel) (some_getD (d := PE.bot) (by kernel_rfl)) rfl

/-- loop.example/g00300/laws.eqHost -/
def h_laws_eqHost : List (Nat × Hint) := []
noncomputable def p_laws_eqHost : PE := (comp tysC [] h_laws_eqHost Tryd.f73 [(.vw, (.pair .str (.pair .bool (.pair (.int .i64) .unit)))), (.vw, (.pair .str (.pair .bool (.pair (.int .i64) .unit))))] true .bool).getD .bot
noncomputable def e_laws_eqHost : Ent := ⟨73, [(.vw, (.pair .str (.pair .bool (.pair (.int .i64) .unit)))), (.vw, (.pair .str (.pair .bool (.pair (.int .i64) .unit))))], true, .bool, runPE [] p_laws_eqHost⟩
theorem ok_laws_eqHost : e_laws_eqHost.Ok Tryd.prog := Ent.ok_of (pe := p_laws_eqHost) (fn := Tryd.f73) (hs := h_laws_eqHost) envC ok_nil Tryd.func73 (by decide +kernel) (some_getD (d := PE.bot) (by kernel_rfl)) rfl

/-- loop.example/g00300/laws.eqHostS -/
def h_laws_eqHostS : List (Nat × Hint) := [(58, .loop ⟨[0, 1], [(5, 0, (.int .i64))]⟩ [(1, ⟨[4], []⟩), (2, ⟨[], []⟩)])]
noncomputable def p_laws_eqHostS : PE := (comp tysC [e_laws_eqHost] h_laws_eqHostS Tryd.f53 [(.vw, (.lst false (.pair .str (.pair .bool (.pair (.int .i64) .unit))))), (.vw, (.lst false (.pair .str (.pair .bool (.pair (.int .i64) .unit)))))] true .bool).getD .bot
noncomputable def e_laws_eqHostS : Ent := ⟨53, [(.vw, (.lst false (.pair .str (.pair .bool (.pair (.int .i64) .unit))))), (.vw, (.lst false (.pair .str (.pair .bool (.pair (.int .i64) .unit)))))], true, .bool, runPE [e_laws_eqHost] p_laws_eqHostS⟩
theorem ok_laws_eqHostS : e_laws_eqHostS.Ok Tryd.prog := Ent.ok_of (pe := p_laws_eqHostS) (fn := Tryd.f53) (hs := h_laws_eqHostS) envC (ok_cons ok_laws_eqHost ok_nil) Tryd.func53 (by decide +kernel) (some_getD (d := PE.bot) (by kernel_rfl)) rfl

/-- loop.example/g00300/laws.eqHealth -/
def h_laws_eqHealth : List (Nat × Hint) := []
noncomputable def p_laws_eqHealth : PE := (comp tysC [e_laws_eqHostS] h_laws_eqHealth Tryd.f19 [(.vw, (.pair (.int .i64) (.pair (.int .i64) (.pair (.lst false (.pair .str (.pair .bool (.pair (.int .i64) .unit)))) .unit)))), (.vw, (.pair (.int .i64) (.pair (.int .i64) (.pair (.lst false (.pair .str (.pair .bool (.pair (.int .i64) .unit)))) .unit))))] true .bool).getD .bot
noncomputable def e_laws_eqHealth : Ent := ⟨19, [(.vw, (.pair (.int .i64) (.pair (.int .i64) (.pair (.lst false (.pair .str (.pair .bool (.pair (.int .i64) .unit)))) .unit)))), (.vw, (.pair (.int .i64) (.pair (.int .i64) (.pair (.lst false (.pair .str (.pair .bool (.pair (.int .i64) .unit)))) .unit))))], true, .bool, runPE [e_laws_eqHostS] p_laws_eqHealth⟩
theorem ok_laws_eqHealth : e_laws_eqHealth.Ok Tryd.prog := Ent.ok_of (pe := p_laws_eqHealth) (fn := Tryd.f19) (hs := h_laws_eqHealth) envC (ok_cons ok_laws_eqHostS ok_nil) Tryd.func19 (by decide +kernel) (some_getD (d := PE.bot) (by kernel_rfl)) rfl

/-- loop.example/g00300/laws.markText -/
def h_laws_markText : List (Nat × Hint) := [(60, .loop ⟨[], [(0, 0, (.int .i64)), (3, 0, .str)]⟩ [(2, ⟨[], [(3, 0, .str)]⟩)])]
noncomputable def p_laws_markText : PE := (comp tysC [] h_laws_markText Tryd.f61 [(.vw, (.int .i64))] true .str).getD .bot
noncomputable def e_laws_markText : Ent := ⟨61, [(.vw, (.int .i64))], true, .str, runPE [] p_laws_markText⟩
theorem ok_laws_markText : e_laws_markText.Ok Tryd.prog := Ent.ok_of (pe := p_laws_markText) (fn := Tryd.f61) (hs := h_laws_markText) envC ok_nil Tryd.func61 (by decide +kernel) (some_getD (d := PE.bot) (by kernel_rfl)) rfl

/-- loop.example/g00300/laws.markHostS -/
def h_laws_markHostS : List (Nat × Hint) := [(26, .loop ⟨[], [(0, 0, (.lst true (.pair .str (.pair .bool (.pair (.int .i64) .unit))))), (1, 0, (.int .i64)), (5, 0, (.int .i64))]⟩ [(2, ⟨[], [(0, 0, (.lst true (.pair .str (.pair .bool (.pair (.int .i64) .unit))))), (1, 0, (.int .i64))]⟩)])]
noncomputable def p_laws_markHostS : PE := (comp tysC [e_laws_markText] h_laws_markHostS Tryd.f54 [(.io, (.lst true (.pair .str (.pair .bool (.pair (.int .i64) .unit))))), (.vw, (.int .i64))] true (.int .i64)).getD .bot
noncomputable def e_laws_markHostS : Ent := ⟨54, [(.io, (.lst true (.pair .str (.pair .bool (.pair (.int .i64) .unit))))), (.vw, (.int .i64))], true, (.int .i64), runPE [e_laws_markText] p_laws_markHostS⟩
theorem ok_laws_markHostS : e_laws_markHostS.Ok Tryd.prog := Ent.ok_of (pe := p_laws_markHostS) (fn := Tryd.f54) (hs := h_laws_markHostS) envC (ok_cons ok_laws_markText ok_nil) Tryd.func54 (by decide +kernel) (some_getD (d := PE.bot) (by kernel_rfl)) rfl

/-- loop.example/g00300/laws.markHealth -/
def h_laws_markHealth : List (Nat × Hint) := []
noncomputable def p_laws_markHealth : PE := (comp tysC [e_laws_markHostS] h_laws_markHealth Tryd.f20 [(.io, (.pair (.int .i64) (.pair (.int .i64) (.pair (.lst true (.pair .str (.pair .bool (.pair (.int .i64) .unit)))) .unit)))), (.vw, (.int .i64))] true (.int .i64)).getD .bot
noncomputable def e_laws_markHealth : Ent := ⟨20, [(.io, (.pair (.int .i64) (.pair (.int .i64) (.pair (.lst true (.pair .str (.pair .bool (.pair (.int .i64) .unit)))) .unit)))), (.vw, (.int .i64))], true, (.int .i64), runPE [e_laws_markHostS] p_laws_markHealth⟩
theorem ok_laws_markHealth : e_laws_markHealth.Ok Tryd.prog := Ent.ok_of (pe := p_laws_markHealth) (fn := Tryd.f20) (hs := h_laws_markHealth) envC (ok_cons ok_laws_markHostS ok_nil) Tryd.func20 (by decide +kernel) (some_getD (d := PE.bot) (by kernel_rfl)) rfl

/-- loop.example/g00300/laws.heldHostS -/
def h_laws_heldHostS : List (Nat × Hint) := [(26, .loop ⟨[0], [(1, 0, (.int .i64)), (5, 0, (.int .i64))]⟩ [(1, ⟨[], [(4, 0, (.int .i64))]⟩), (2, ⟨[], [(1, 0, (.int .i64))]⟩)])]
noncomputable def p_laws_heldHostS : PE := (comp tysC [e_laws_markText] h_laws_heldHostS Tryd.f55 [(.vw, (.lst false (.pair .str (.pair .bool (.pair (.int .i64) .unit))))), (.vw, (.int .i64))] true (.int .i64)).getD .bot
noncomputable def e_laws_heldHostS : Ent := ⟨55, [(.vw, (.lst false (.pair .str (.pair .bool (.pair (.int .i64) .unit))))), (.vw, (.int .i64))], true, (.int .i64), runPE [e_laws_markText] p_laws_heldHostS⟩
theorem ok_laws_heldHostS : e_laws_heldHostS.Ok Tryd.prog := Ent.ok_of (pe := p_laws_heldHostS) (fn := Tryd.f55) (hs := h_laws_heldHostS) envC (ok_cons ok_laws_markText ok_nil) Tryd.func55 (by decide +kernel) (some_getD (d := PE.bot) (by kernel_rfl)) rfl

/-- loop.example/g00300/laws.heldHealth -/
def h_laws_heldHealth : List (Nat × Hint) := []
noncomputable def p_laws_heldHealth : PE := (comp tysC [e_laws_heldHostS] h_laws_heldHealth Tryd.f21 [(.vw, (.pair (.int .i64) (.pair (.int .i64) (.pair (.lst false (.pair .str (.pair .bool (.pair (.int .i64) .unit)))) .unit)))), (.vw, (.int .i64))] true (.int .i64)).getD .bot
noncomputable def e_laws_heldHealth : Ent := ⟨21, [(.vw, (.pair (.int .i64) (.pair (.int .i64) (.pair (.lst false (.pair .str (.pair .bool (.pair (.int .i64) .unit)))) .unit)))), (.vw, (.int .i64))], true, (.int .i64), runPE [e_laws_heldHostS] p_laws_heldHealth⟩
theorem ok_laws_heldHealth : e_laws_heldHealth.Ok Tryd.prog := Ent.ok_of (pe := p_laws_heldHealth) (fn := Tryd.f21) (hs := h_laws_heldHealth) envC (ok_cons ok_laws_heldHostS ok_nil) Tryd.func21 (by decide +kernel) (some_getD (d := PE.bot) (by kernel_rfl)) rfl

/-- loop.example/g00300/laws.FnExactTakeProbe -/
def h_laws_FnExactTakeProbe : List (Nat × Hint) := [(2097150, .join [(0, ⟨[10, 14], [(116, 0, .bool)]⟩)]), (8190, .join [(0, ⟨[2, 3, 6, 7, 8, 10], [(82, 0, .bool)]⟩)]), (510, .join [(0, ⟨[2, 3, 6, 7, 8, 9, 10, 11, 12], [(56, 0, .bool)]⟩)])]
noncomputable def p_laws_FnExactTakeProbe : PE := (comp tysC [e_laws_szHealth, e_laws_toHealth, e_laws_toProbe, e_spec_TakeProbe, e_impl_TakeProbe, e_laws_eqHealth, e_laws_markHealth, e_laws_heldHealth] h_laws_FnExactTakeProbe Tryd.f4 [(.vw, (.pair (.int .i64) (.pair (.int .i64) (.pair (.lst false (.pair .str (.pair .bool (.pair (.int .i64) .unit)))) .unit)))), (.vw, (.pair (.int .i64) (.pair .bool .unit)))] true .bool).getD .bot
noncomputable def e_laws_FnExactTakeProbe : Ent := ⟨4, [(.vw, (.pair (.int .i64) (.pair (.int .i64) (.pair (.lst false (.pair .str (.pair .bool (.pair (.int .i64) .unit)))) .unit)))), (.vw, (.pair (.int .i64) (.pair .bool .unit)))], true, .bool, runPE [e_laws_szHealth, e_laws_toHealth, e_laws_toProbe, e_spec_TakeProbe, e_impl_TakeProbe, e_laws_eqHealth, e_laws_markHealth, e_laws_heldHealth] p_laws_FnExactTakeProbe⟩
theorem ok_laws_FnExactTakeProbe : e_laws_FnExactTakeProbe.Ok Tryd.prog := Ent.ok_of (pe := p_laws_FnExactTakeProbe) (fn := Tryd.f4) (hs := h_laws_FnExactTakeProbe) envC (ok_cons ok_laws_szHealth (ok_cons ok_laws_toHealth (ok_cons ok_laws_toProbe (ok_cons ok_spec_TakeProbe (ok_cons ok_impl_TakeProbe (ok_cons ok_laws_eqHealth (ok_cons ok_laws_markHealth (ok_cons ok_laws_heldHealth ok_nil)))))))) Tryd.func4 (by decide +kernel) (some_getD (d := PE.bot) (by kernel_rfl)) rfl

/-- (*loop.example/g00300/spec.l1Cur).health -/
def h_spec_l1Cur_health : List (Nat × Hint) := [(127, .join [(0, ⟨[2], [(0, 2, (.pair (.lst false (.int .u8)) (.pair (.int .i64) (.pair (.int .u64) .unit)))), (5, 2, (.pair (.int .i64) (.pair (.int .i64) (.pair (.lst true (.pair .str (.pair .bool (.pair (.int .i64) .unit)))) .unit))))]⟩)]), (63, .join [(0, ⟨[0, 2], [(5, 2, (.pair (.int .i64) (.pair (.int .i64) (.pair (.lst true (.pair .str (.pair .bool (.pair (.int .i64) .unit)))) .unit))))]⟩)]), (15, .join [(0, ⟨[0, 2, 3], [(4, 0, (.lst true (.pair (.int .i64) (.pair .bool .unit))))]⟩)])]
noncomputable def p_spec_l1Cur_health : PE := (comp tysC [e_spec_l1Cur_hosts, e_spec_l1Cur_probes, e_spec_l1Cur_pick, e_spec_PlayProbes, e_spec_NewHealth, e_spec_l1Cur_one] h_spec_l1Cur_health Tryd.f56 [(.iop, (.pair (.lst false (.int .u8)) (.pair (.int .i64) (.pair (.int .u64) .unit))))] true (.pair (.int .i64) (.pair (.int .i64) (.pair (.lst true (.pair .str (.pair .bool (.pair (.int .i64) .unit)))) .unit)))).getD .bot
noncomputable def e_spec_l1Cur_health : Ent := ⟨56, [(.iop, (.pair (.lst false (.int .u8)) (.pair (.int .i64) (.pair (.int .u64) .unit))))], true, (.pair (.int .i64) (.pair (.int .i64) (.pair (.lst true (.pair .str (.pair .bool (.pair (.int .i64) .unit)))) .unit))), runPE [e_spec_l1Cur_hosts, e_spec_l1Cur_probes, e_spec_l1Cur_pick, e_spec_PlayProbes, e_spec_NewHealth, e_spec_l1Cur_one] p_spec_l1Cur_health⟩
theorem ok_spec_l1Cur_health : e_spec_l1Cur_health.Ok Tryd.prog := Ent.ok_of (pe := p_spec_l1Cur_health) (fn := Tryd.f56) (hs := h_spec_l1Cur_health) envC (ok_cons ok_spec_l1Cur_hosts (ok_cons ok_spec_l1Cur_probes (ok_cons ok_spec_l1Cur_pick (ok_cons ok_spec_PlayProbes (ok_cons ok_spec_NewHealth (ok_cons ok_spec_l1Cur_one ok_nil)))))) Tryd.func56 (by decide +kernel) (some_getD (d := PE.bot) (by kernel_rfl)) rfl

/-- loop.example/g00300/spec.DrawTakeProbe -/
def h_spec_DrawTakeProbe : List (Nat × Hint) := []
noncomputable def p_spec_DrawTakeProbe : PE := (comp tysC [e_spec_l1Cur_health, e_spec_l1Cur_pick, e_spec_l1Cur_one] h_spec_DrawTakeProbe Tryd.f22 [(.vw, (.lst false (.int .u8)))] false (.pair (.pair (.int .i64) (.pair (.int .i64) (.pair (.lst true (.pair .str (.pair .bool (.pair (.int .i64) .unit)))) .unit))) (.pair (.pair (.int .i64) (.pair .bool .unit)) .unit))).getD .bot
noncomputable def e_spec_DrawTakeProbe : Ent := ⟨22, [(.vw, (.lst false (.int .u8)))], false, (.pair (.pair (.int .i64) (.pair (.int .i64) (.pair (.lst true (.pair .str (.pair .bool (.pair (.int .i64) .unit)))) .unit))) (.pair (.pair (.int .i64) (.pair .bool .unit)) .unit)), runPE [e_spec_l1Cur_health, e_spec_l1Cur_pick, e_spec_l1Cur_one] p_spec_DrawTakeProbe⟩
theorem ok_spec_DrawTakeProbe : e_spec_DrawTakeProbe.Ok Tryd.prog := Ent.ok_of (pe := p_spec_DrawTakeProbe) (fn := Tryd.f22) (hs := h_spec_DrawTakeProbe) envC (ok_cons ok_spec_l1Cur_health (ok_cons ok_spec_l1Cur_pick (ok_cons ok_spec_l1Cur_one ok_nil))) Tryd.func22 (by decide +kernel) (some_getD (d := PE.bot) (by kernel_rfl)) rfl

/-- loop.example/g00300/spec.DrawGoodHealth -/
def h_spec_DrawGoodHealth : List (Nat × Hint) := []
noncomputable def p_spec_DrawGoodHealth : PE := (comp tysC [e_spec_l1Cur_health] h_spec_DrawGoodHealth Tryd.f59 [(.vw, (.lst false (.int .u8)))] true (.pair (.int .i64) (.pair (.int .i64) (.pair (.lst true (.pair .str (.pair .bool (.pair (.int .i64) .unit)))) .unit)))).getD .bot
noncomputable def e_spec_DrawGoodHealth : Ent := ⟨59, [(.vw, (.lst false (.int .u8)))], true, (.pair (.int .i64) (.pair (.int .i64) (.pair (.lst true (.pair .str (.pair .bool (.pair (.int .i64) .unit)))) .unit))), runPE [e_spec_l1Cur_health] p_spec_DrawGoodHealth⟩
theorem ok_spec_DrawGoodHealth : e_spec_DrawGoodHealth.Ok Tryd.prog := Ent.ok_of (pe := p_spec_DrawGoodHealth) (fn := Tryd.f59) (hs := h_spec_DrawGoodHealth) envC (ok_cons ok_spec_l1Cur_health ok_nil) Tryd.func59 (by decide +kernel) (some_getD (d := PE.bot) (by kernel_rfl)) rfl

/-- loop.example/g00300/spec.DrawUpIn -/
def h_spec_DrawUpIn : List (Nat × Hint) := []
noncomputable def p_spec_DrawUpIn : PE := (comp tysC [e_spec_DrawGoodHealth] h_spec_DrawUpIn Tryd.f24 [(.vw, (.lst false (.int .u8)))] true (.pair (.int .i64) (.pair (.int .i64) (.pair (.lst true (.pair .str (.pair .bool (.pair (.int .i64) .unit)))) .unit)))).getD .bot
noncomputable def e_spec_DrawUpIn : Ent := ⟨24, [(.vw, (.lst false (.int .u8)))], true, (.pair (.int .i64) (.pair (.int .i64) (.pair (.lst true (.pair .str (.pair .bool (.pair (.int .i64) .unit)))) .unit))), runPE [e_spec_DrawGoodHealth] p_spec_DrawUpIn⟩
theorem ok_spec_DrawUpIn : e_spec_DrawUpIn.Ok Tryd.prog := Ent.ok_of (pe := p_spec_DrawUpIn) (fn := Tryd.f24) (hs := h_spec_DrawUpIn) envC (ok_cons ok_spec_DrawGoodHealth ok_nil) Tryd.func24 (by decide +kernel) (some_getD (d := PE.bot) (by kernel_rfl)) rfl

/-- loop.example/g00300/impl.UpIn -/
def h_impl_UpIn : List (Nat × Hint) := [(122, .loop ⟨[12, 13], [(4, 0, (.lst true .str)), (14, 0, (.int .i64))]⟩ [(2, ⟨[], [(4, 0, (.lst true .str))]⟩)]), (979, .join [(0, ⟨[12, 13, 14], [(4, 0, (.lst true .str))]⟩)]), (0, .frz [2])]
noncomputable def p_impl_UpIn : PE := (comp tysC [e_impl_GoodHealth] h_impl_UpIn Tryd.f25 [(.vw, (.pair (.int .i64) (.pair (.int .i64) (.pair (.lst false (.pair .str (.pair .bool (.pair (.int .i64) .unit)))) .unit))))] false (.pair (.lst true .str) (.pair .bool .unit))).getD .bot
noncomputable def e_impl_UpIn : Ent := ⟨25, [(.vw, (.pair (.int .i64) (.pair (.int .i64) (.pair (.lst false (.pair .str (.pair .bool (.pair (.int .i64) .unit)))) .unit))))], false, (.pair (.lst true .str) (.pair .bool .unit)), runPE [e_impl_GoodHealth] p_impl_UpIn⟩
theorem ok_impl_UpIn : e_impl_UpIn.Ok Tryd.prog := Ent.ok_of (pe := p_impl_UpIn) (fn := Tryd.f25) (hs := h_impl_UpIn) envC (ok_cons ok_impl_GoodHealth ok_nil) Tryd.func25 (by decide +kernel) (some_getD (d := PE.bot) (by kernel_rfl)) rfl

/-- loop.example/g00300/spec.UpIn -/
def h_spec_UpIn : List (Nat × Hint) := [(122, .loop ⟨[11, 12], [(4, 0, (.lst true .str)), (13, 0, (.int .i64))]⟩ [(2, ⟨[], [(4, 0, (.lst true .str))]⟩)]), (979, .join [(0, ⟨[11, 12, 13], [(4, 0, (.lst true .str))]⟩)]), (0, .frz [2])]
noncomputable def p_spec_UpIn : PE := (comp tysC [e_spec_GoodHealth] h_spec_UpIn Tryd.f26 [(.vw, (.pair (.int .i64) (.pair (.int .i64) (.pair (.lst false (.pair .str (.pair .bool (.pair (.int .i64) .unit)))) .unit))))] false (.pair (.lst true .str) (.pair .bool .unit))).getD .bot
noncomputable def e_spec_UpIn : Ent := ⟨26, [(.vw, (.pair (.int .i64) (.pair (.int .i64) (.pair (.lst false (.pair .str (.pair .bool (.pair (.int .i64) .unit)))) .unit))))], false, (.pair (.lst true .str) (.pair .bool .unit)), runPE [e_spec_GoodHealth] p_spec_UpIn⟩
theorem ok_spec_UpIn : e_spec_UpIn.Ok Tryd.prog := Ent.ok_of (pe := p_spec_UpIn) (fn := Tryd.f26) (hs := h_spec_UpIn) envC (ok_cons ok_spec_GoodHealth ok_nil) Tryd.func26 (by decide +kernel) (some_getD (d := PE.bot) (by kernel_rfl)) rfl

/-- loop.example/g00300/laws.sameTexts -/
def h_laws_sameTexts : List (Nat × Hint) := [(58, .loop ⟨[0, 1, 12], [(13, 0, (.int .i64))]⟩ [(1, ⟨[4], []⟩), (2, ⟨[], []⟩)])]
noncomputable def p_laws_sameTexts : PE := (comp tysC [] h_laws_sameTexts Tryd.f27 [(.vw, (.lst false .str)), (.vw, (.lst false .str))] true .bool).getD .bot
noncomputable def e_laws_sameTexts : Ent := ⟨27, [(.vw, (.lst false .str)), (.vw, (.lst false .str))], true, .bool, runPE [] p_laws_sameTexts⟩
theorem ok_laws_sameTexts : e_laws_sameTexts.Ok Tryd.prog := Ent.ok_of (pe := p_laws_sameTexts) (fn := Tryd.f27) (hs := h_laws_sameTexts) envC ok_nil Tryd.func27 (by decide +kernel) (some_getD (d := PE.bot) (by kernel_rfl)) rfl

/-- loop.example/g00300/laws.FnProbes -/
def h_laws_FnProbes : List (Nat × Hint) := [(32762, .loop ⟨[14, 15, 137, 138], [(139, 0, (.int .i64))]⟩ [(1, ⟨[], [(4, 0, .bool)]⟩), (4, ⟨[], []⟩)]), (4193587, .join [(0, ⟨[14, 15, 137, 138, 139], [(154, 0, .bool)]⟩)]), (4094, .join [(0, ⟨[14, 15], [(136, 0, .bool)]⟩)]), (127, .join [(0, ⟨[1], []⟩), (1, ⟨[], [(4, 0, .bool)]⟩)]), (2037, .join [(0, ⟨[1], [(115, 0, .bool)]⟩)]), (8146, .loop ⟨[1, 5, 6, 7, 8, 72], [(73, 0, (.int .i64))]⟩ [(1, ⟨[], [(4, 0, .bool)]⟩), (2, ⟨[1, 5, 6, 7, 8], []⟩)]), (521369, .join [(0, ⟨[1, 5, 6, 7, 8, 72, 73], [(92, 0, .bool)]⟩)]), (126, .join [(0, ⟨[1, 5, 6, 7, 8, 9], [(68, 0, .bool)]⟩)])]
noncomputable def p_laws_FnProbes : PE := (comp tysC [e_spec_DrawTakeProbe, e_impl_TakeProbe, e_spec_TakeProbe, e_laws_sameHealths, e_impl_GoodHealth, e_spec_GoodHealth, e_spec_DrawUpIn, e_impl_UpIn, e_spec_UpIn, e_laws_sameTexts, e_impl_IsUp] h_laws_FnProbes Tryd.f5 [(.vw, (.lst false (.int .u8))), (.vw, (.lst false (.int .u8)))] true .bool).getD .bot
noncomputable def e_laws_FnProbes : Ent := ⟨5, [(.vw, (.lst false (.int .u8))), (.vw, (.lst false (.int .u8)))], true, .bool, runPE [e_spec_DrawTakeProbe, e_impl_TakeProbe, e_spec_TakeProbe, e_laws_sameHealths, e_impl_GoodHealth, e_spec_GoodHealth, e_spec_DrawUpIn, e_impl_UpIn, e_spec_UpIn, e_laws_sameTexts, e_impl_IsUp] p_laws_FnProbes⟩
theorem ok_laws_FnProbes : e_laws_FnProbes.Ok Tryd.prog := Ent.ok_of (pe := p_laws_FnProbes) (fn := Tryd.f5) (hs := h_laws_FnProbes) envC (ok_cons ok_spec_DrawTakeProbe (ok_cons ok_impl_TakeProbe (ok_cons ok_spec_TakeProbe (ok_cons ok_laws_sameHealths (ok_cons ok_impl_GoodHealth (ok_cons ok_spec_GoodHealth (ok_cons ok_spec_DrawUpIn (ok_cons ok_impl_UpIn (ok_cons ok_spec_UpIn (ok_cons ok_laws_sameTexts (ok_cons ok_impl_IsUp ok_nil))))))))))) Tryd.func5 (by decide +kernel) (some_getD (d := PE.bot) (by kernel_rfl)) rfl

/-- loop.example/g00300/laws.szStringS -/
def h_laws_szStringS : List (Nat × Hint) := [(122, .loop ⟨[0], [(1, 0, (.int .i64)), (5, 0, (.int .i64))]⟩ [(1, ⟨[], [(4, 0, (.int .i64))]⟩), (2, ⟨[], [(1, 0, (.int .i64))]⟩)])]
noncomputable def p_laws_szStringS : PE := (comp tysC [] h_laws_szStringS Tryd.f28 [(.vw, (.lst false .str)), (.vw, (.int .i64))] true (.int .i64)).getD .bot
noncomputable def e_laws_szStringS : Ent := ⟨28, [(.vw, (.lst false .str)), (.vw, (.int .i64))], true, (.int .i64), runPE [] p_laws_szStringS⟩
theorem ok_laws_szStringS : e_laws_szStringS.Ok Tryd.prog := Ent.ok_of (pe := p_laws_szStringS) (fn := Tryd.f28) (hs := h_laws_szStringS) envC ok_nil Tryd.func28 (by decide +kernel) (some_getD (d := PE.bot) (by kernel_rfl)) rfl

/-- loop.example/g00300/laws.szProbeS -/
def h_laws_szProbeS : List (Nat × Hint) := []
noncomputable def p_laws_szProbeS : PE := (comp tysC [] h_laws_szProbeS Tryd.f29 [(.vw, (.lst false (.pair (.int .i64) (.pair .bool .unit)))), (.vw, (.int .i64))] true (.int .i64)).getD .bot
noncomputable def e_laws_szProbeS : Ent := ⟨29, [(.vw, (.lst false (.pair (.int .i64) (.pair .bool .unit)))), (.vw, (.int .i64))], true, (.int .i64), runPE [] p_laws_szProbeS⟩
theorem ok_laws_szProbeS : e_laws_szProbeS.Ok Tryd.prog := Ent.ok_of (pe := p_laws_szProbeS) (fn := Tryd.f29) (hs := h_laws_szProbeS) envC ok_nil Tryd.func29 (by decide +kernel) (some_getD (d := PE.bot) (by kernel_rfl)) rfl

/-- loop.example/g00300/laws.toStringS -/
def h_laws_toStringS : List (Nat × Hint) := [(58, .loop ⟨[0], [(3, 0, (.lst true .str)), (4, 0, (.int .i64))]⟩ [(2, ⟨[], [(3, 0, (.lst true .str))]⟩)]), (0, .frz [2])]
noncomputable def p_laws_toStringS : PE := (comp tysC [] h_laws_toStringS Tryd.f30 [(.vw, (.lst false .str))] true (.lst true .str)).getD .bot
noncomputable def e_laws_toStringS : Ent := ⟨30, [(.vw, (.lst false .str))], true, (.lst true .str), runPE [] p_laws_toStringS⟩
theorem ok_laws_toStringS : e_laws_toStringS.Ok Tryd.prog := Ent.ok_of (pe := p_laws_toStringS) (fn := Tryd.f30) (hs := h_laws_toStringS) envC ok_nil Tryd.func30 (by decide +kernel) (some_getD (d := PE.bot) (by kernel_rfl)) rfl

/-- loop.example/g00300/laws.toProbeS -/
def h_laws_toProbeS : List (Nat × Hint) := [(58, .loop ⟨[0], [(3, 0, (.lst true (.pair (.int .i64) (.pair .bool .unit)))), (4, 0, (.int .i64))]⟩ [(2, ⟨[], [(3, 0, (.lst true (.pair (.int .i64) (.pair .bool .unit))))]⟩)]), (0, .frz [2])]
noncomputable def p_laws_toProbeS : PE := (comp tysC [e_laws_toProbe] h_laws_toProbeS Tryd.f31 [(.vw, (.lst false (.pair (.int .i64) (.pair .bool .unit))))] true (.lst true (.pair (.int .i64) (.pair .bool .unit)))).getD .bot
noncomputable def e_laws_toProbeS : Ent := ⟨31, [(.vw, (.lst false (.pair (.int .i64) (.pair .bool .unit))))], true, (.lst true (.pair (.int .i64) (.pair .bool .unit))), runPE [e_laws_toProbe] p_laws_toProbeS⟩
theorem ok_laws_toProbeS : e_laws_toProbeS.Ok Tryd.prog := Ent.ok_of (pe := p_laws_toProbeS) (fn := Tryd.f31) (hs := h_laws_toProbeS) envC (ok_cons ok_laws_toProbe ok_nil) Tryd.func31 (by decide +kernel) (some_getD (d := PE.bot) (by kernel_rfl)) rfl

/-- loop.example/g00300/laws.eqStringS -/
def h_laws_eqStringS : List (Nat × Hint) := [(58, .loop ⟨[0, 1], [(5, 0, (.int .i64))]⟩ [(1, ⟨[4], []⟩), (2, ⟨[], []⟩)])]
noncomputable def p_laws_eqStringS : PE := (comp tysC [] h_laws_eqStringS Tryd.f32 [(.vw, (.lst false .str)), (.vw, (.lst false .str))] true .bool).getD .bot
noncomputable def e_laws_eqStringS : Ent := ⟨32, [(.vw, (.lst false .str)), (.vw, (.lst false .str))], true, .bool, runPE [] p_laws_eqStringS⟩
theorem ok_laws_eqStringS : e_laws_eqStringS.Ok Tryd.prog := Ent.ok_of (pe := p_laws_eqStringS) (fn := Tryd.f32) (hs := h_laws_eqStringS) envC ok_nil Tryd.func32 (by decide +kernel) (some_getD (d := PE.bot) (by kernel_rfl)) rfl

/-- loop.example/g00300/laws.eqProbe -/
def h_laws_eqProbe : List (Nat × Hint) := []
noncomputable def p_laws_eqProbe : PE := (comp tysC [] h_laws_eqProbe Tryd.f60 [(.vw, (.pair (.int .i64) (.pair .bool .unit))), (.vw, (.pair (.int .i64) (.pair .bool .unit)))] true .bool).getD .bot
noncomputable def e_laws_eqProbe : Ent := ⟨60, [(.vw, (.pair (.int .i64) (.pair .bool .unit))), (.vw, (.pair (.int .i64) (.pair .bool .unit)))], true, .bool, runPE [] p_laws_eqProbe⟩
theorem ok_laws_eqProbe : e_laws_eqProbe.Ok Tryd.prog := Ent.ok_of (pe := p_laws_eqProbe) (fn := Tryd.f60) (hs := h_laws_eqProbe) envC ok_nil Tryd.func60 (by decide +kernel) (some_getD (d := PE.bot) (by kernel_rfl)) rfl

/-- loop.example/g00300/laws.eqProbeS -/
def h_laws_eqProbeS : List (Nat × Hint) := [(58, .loop ⟨[0, 1], [(5, 0, (.int .i64))]⟩ [(1, ⟨[4], []⟩), (2, ⟨[], []⟩)])]
noncomputable def p_laws_eqProbeS : PE := (comp tysC [e_laws_eqProbe] h_laws_eqProbeS Tryd.f33 [(.vw, (.lst false (.pair (.int .i64) (.pair .bool .unit)))), (.vw, (.lst false (.pair (.int .i64) (.pair .bool .unit))))] true .bool).getD .bot
noncomputable def e_laws_eqProbeS : Ent := ⟨33, [(.vw, (.lst false (.pair (.int .i64) (.pair .bool .unit)))), (.vw, (.lst false (.pair (.int .i64) (.pair .bool .unit))))], true, .bool, runPE [e_laws_eqProbe] p_laws_eqProbeS⟩
theorem ok_laws_eqProbeS : e_laws_eqProbeS.Ok Tryd.prog := Ent.ok_of (pe := p_laws_eqProbeS) (fn := Tryd.f33) (hs := h_laws_eqProbeS) envC (ok_cons ok_laws_eqProbe ok_nil) Tryd.func33 (by decide +kernel) (some_getD (d := PE.bot) (by kernel_rfl)) rfl

/-- loop.example/g00300/laws.markStringS -/
def h_laws_markStringS : List (Nat × Hint) := [(26, .loop ⟨[], [(0, 0, (.lst true .str)), (1, 0, (.int .i64)), (5, 0, (.int .i64))]⟩ [(2, ⟨[], [(0, 0, (.lst true .str)), (1, 0, (.int .i64))]⟩)])]
noncomputable def p_laws_markStringS : PE := (comp tysC [e_laws_markText] h_laws_markStringS Tryd.f34 [(.io, (.lst true .str)), (.vw, (.int .i64))] true (.int .i64)).getD .bot
noncomputable def e_laws_markStringS : Ent := ⟨34, [(.io, (.lst true .str)), (.vw, (.int .i64))], true, (.int .i64), runPE [e_laws_markText] p_laws_markStringS⟩
theorem ok_laws_markStringS : e_laws_markStringS.Ok Tryd.prog := Ent.ok_of (pe := p_laws_markStringS) (fn := Tryd.f34) (hs := h_laws_markStringS) envC (ok_cons ok_laws_markText ok_nil) Tryd.func34 (by decide +kernel) (some_getD (d := PE.bot) (by kernel_rfl)) rfl

/-- loop.example/g00300/laws.markProbeS -/
def h_laws_markProbeS : List (Nat × Hint) := [(26, .loop ⟨[], [(0, 0, (.lst true (.pair (.int .i64) (.pair .bool .unit)))), (1, 0, (.int .i64)), (5, 0, (.int .i64))]⟩ [(2, ⟨[], [(0, 0, (.lst true (.pair (.int .i64) (.pair .bool .unit)))), (1, 0, (.int .i64))]⟩)])]
noncomputable def p_laws_markProbeS : PE := (comp tysC [] h_laws_markProbeS Tryd.f35 [(.io, (.lst true (.pair (.int .i64) (.pair .bool .unit)))), (.vw, (.int .i64))] true (.int .i64)).getD .bot
noncomputable def e_laws_markProbeS : Ent := ⟨35, [(.io, (.lst true (.pair (.int .i64) (.pair .bool .unit)))), (.vw, (.int .i64))], true, (.int .i64), runPE [] p_laws_markProbeS⟩
theorem ok_laws_markProbeS : e_laws_markProbeS.Ok Tryd.prog := Ent.ok_of (pe := p_laws_markProbeS) (fn := Tryd.f35) (hs := h_laws_markProbeS) envC ok_nil Tryd.func35 (by decide +kernel) (some_getD (d := PE.bot) (by kernel_rfl)) rfl

/-- loop.example/g00300/laws.FnExactPlayProbes -/
def h_laws_FnExactPlayProbes : List (Nat × Hint) := [(67108862, .join [(0, ⟨[15, 19], [(141, 0, .bool)]⟩)]), (262142, .join [(0, ⟨[0, 1, 2, 3, 10, 11, 12, 15], [(105, 0, .bool)]⟩)]), (4094, .join [(0, ⟨[0, 1, 2, 3, 10, 11, 12, 13, 14, 15, 16, 17], [(71, 0, .bool)]⟩)])]
noncomputable def p_laws_FnExactPlayProbes : PE := (comp tysC [e_laws_szStringS, e_laws_szProbeS, e_laws_toStringS, e_laws_toProbeS, e_spec_PlayProbes, e_impl_PlayProbes, e_laws_eqHealth, e_laws_eqStringS, e_laws_eqProbeS, e_laws_markStringS, e_laws_markProbeS, e_laws_markHealth, e_laws_heldHealth] h_laws_FnExactPlayProbes Tryd.f6 [(.vw, (.int .i64)), (.vw, (.int .i64)), (.vw, (.lst false .str)), (.vw, (.lst false (.pair (.int .i64) (.pair .bool .unit))))] true .bool).getD .bot
noncomputable def e_laws_FnExactPlayProbes : Ent := ⟨6, [(.vw, (.int .i64)), (.vw, (.int .i64)), (.vw, (.lst false .str)), (.vw, (.lst false (.pair (.int .i64) (.pair .bool .unit))))], true, .bool, runPE [e_laws_szStringS, e_laws_szProbeS, e_laws_toStringS, e_laws_toProbeS, e_spec_PlayProbes, e_impl_PlayProbes, e_laws_eqHealth, e_laws_eqStringS, e_laws_eqProbeS, e_laws_markStringS, e_laws_markProbeS, e_laws_markHealth, e_laws_heldHealth] p_laws_FnExactPlayProbes⟩
theorem ok_laws_FnExactPlayProbes : e_laws_FnExactPlayProbes.Ok Tryd.prog := Ent.ok_of (pe := p_laws_FnExactPlayProbes) (fn := Tryd.f6) (hs := h_laws_FnExactPlayProbes) envC (ok_cons ok_laws_szStringS (ok_cons ok_laws_szProbeS (ok_cons ok_laws_toStringS (ok_cons ok_laws_toProbeS (ok_cons ok_spec_PlayProbes (ok_cons ok_impl_PlayProbes (ok_cons ok_laws_eqHealth (ok_cons ok_laws_eqStringS (ok_cons ok_laws_eqProbeS (ok_cons ok_laws_markStringS (ok_cons ok_laws_markProbeS (ok_cons ok_laws_markHealth (ok_cons ok_laws_heldHealth ok_nil))))))))))))) Tryd.func6 (by decide +kernel) (some_getD (d := PE.bot) (by kernel_rfl)) rfl
end Go.Proofs.YtbanjbafckgghaaDoor
