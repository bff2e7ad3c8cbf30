/- The functions that the law reaches, each as a program of expressions. -/
import Derived.Test.YtlflhlgppbbahaaGreatDoorC2
import Derived.Test.YtlflhlgppbbahaaGreatDoorLays
set_option linter.unusedSectionVars false
set_option linter.unusedVariables false
set_option linter.unusedSimpArgs false
namespace Go.Proofs.YtlflhlgppbbahaaGreatDoor
open Go Go.Own
set_option maxRecDepth 100000
/-- loop.example/g00300/spec.l6Rule -/
def h_spec_l6Rule : List (Nat × Hint) := [(2042, .loop ⟨[0, 1, 132, 133], [(134, 0, (.int .i64))]⟩ [(1, ⟨[], [(4, 0, (.int .i64))]⟩), (10, ⟨[], []⟩)]), (261427, .join [(0, ⟨[0, 1, 132, 133, 134], [(162, 0, .bool)]⟩)]), (506, .loop ⟨[0, 1, 97, 98], [(99, 0, (.int .i64))]⟩ [(1, ⟨[], [(4, 0, (.int .i64))]⟩), (6, ⟨[0, 1], []⟩)]), (129638, .loop ⟨[0, 1, 11, 97, 98, 99, 106, 107], [(108, 0, (.int .i64))]⟩ [(1, ⟨[], [(4, 0, (.int .i64))]⟩), (8, ⟨[0, 1, 97, 98, 99], []⟩)]), (8296857, .join [(0, ⟨[0, 1, 11, 97, 98, 99, 106, 107, 108], [(126, 0, .bool)]⟩)]), (250, .loop ⟨[0, 1, 43, 44], [(45, 0, (.int .i64))]⟩ [(1, ⟨[], [(4, 0, (.int .i64))]⟩), (4, ⟨[0, 1], []⟩)]), (16025, .join [(0, ⟨[0, 1, 43, 44, 45], [(95, 0, .bool)]⟩)]), (58, .loop ⟨[0, 1, 18, 19], [(5, 0, (.int .i64)), (20, 0, (.int .i64))]⟩ [(1, ⟨[], [(4, 0, (.int .i64))]⟩), (2, ⟨[0, 1], [(5, 0, (.int .i64))]⟩)]), (467, .join [(0, ⟨[0, 1, 18, 19, 20], [(5, 0, (.int .i64))]⟩), (1, ⟨[], [(4, 0, (.int .i64))]⟩)])]
noncomputable def p_spec_l6Rule : PE := (comp tysC [e_spec_l1Below, e_spec_l6Has, e_spec_l6Cut] h_spec_l6Rule Tryz.f53 [(.vw, .str), (.vw, (.lst false (.pair .str (.pair (.int .i64) (.pair (.int .i64) (.pair .str .unit))))))] true (.int .i64)).getD .bot
noncomputable def e_spec_l6Rule : Ent := ⟨53, [(.vw, .str), (.vw, (.lst false (.pair .str (.pair (.int .i64) (.pair (.int .i64) (.pair .str .unit))))))], true, (.int .i64), runPE [e_spec_l1Below, e_spec_l6Has, e_spec_l6Cut] p_spec_l6Rule⟩
theorem ok_spec_l6Rule : e_spec_l6Rule.Ok Tryz.prog := Ent.ok_of (pe := p_spec_l6Rule) (fn := Tryz.f53) (hs := h_spec_l6Rule) envC (ok_cons ok_spec_l1Below (ok_cons ok_spec_l6Has (ok_cons ok_spec_l6Cut ok_nil))) Tryz.func53 (by decide +kernel) (some_getD (d := PE.bot) (by kernel_rfl)) rfl

/-- loop.example/g00300/spec.RuleOf -/
def h_spec_RuleOf : List (Nat × Hint) := [(6, .join [(0, ⟨[0, 1], [(12, 0, .bool)]⟩)])]
noncomputable def p_spec_RuleOf : PE := (comp tysC [e_spec_l6Apex, e_spec_l6List, e_spec_l6Rule] h_spec_RuleOf Tryz.f40 [(.vw, .str), (.vw, (.lst false (.pair .str (.pair (.int .i64) (.pair (.int .i64) (.pair .str .unit))))))] true (.int .i64)).getD .bot
noncomputable def e_spec_RuleOf : Ent := ⟨40, [(.vw, .str), (.vw, (.lst false (.pair .str (.pair (.int .i64) (.pair (.int .i64) (.pair .str .unit))))))], true, (.int .i64), runPE [e_spec_l6Apex, e_spec_l6List, e_spec_l6Rule] p_spec_RuleOf⟩
theorem ok_spec_RuleOf : e_spec_RuleOf.Ok Tryz.prog := Ent.ok_of (pe := p_spec_RuleOf) (fn := Tryz.f40) (hs := h_spec_RuleOf) envC (ok_cons ok_spec_l6Apex (ok_cons ok_spec_l6List (ok_cons ok_spec_l6Rule ok_nil))) Tryz.func40 (by decide +kernel) (some_getD (d := PE.bot) (by kernel_rfl)) rfl

/-- loop.example/g00300/spec.l1Num, which calls itself: at most so deep -/
def h_spec_l1Num : List (Nat × Hint) := []
noncomputable def z_spec_l1Num : Ent := ⟨54, [(.vw, (.int .i64))], true, .str, fun _ => none⟩
noncomputable def p_spec_l1Num : PE := (comp tysC [z_spec_l1Num] h_spec_l1Num Tryz.f54 [(.vw, (.int .i64))] true .str).getD .bot
noncomputable def f_rec_spec_l1Num : Nat → List D → Option D
  | 0 => fun _ => none
  | k + 1 => runPE [⟨54, [(.vw, (.int .i64))], true, .str, f_rec_spec_l1Num k⟩] p_spec_l1Num
noncomputable abbrev r_spec_l1Num (k : Nat) : Ent := ⟨54, [(.vw, (.int .i64))], true, .str, f_rec_spec_l1Num k⟩
theorem okr_spec_l1Num : ∀ k, (r_spec_l1Num k).Ok Tryz.prog
  | 0 => ⟨⟨Tryz.f54, Tryz.func54, by decide +kernel, by kernel_rfl⟩, fun _ _ _ h => by cases h⟩
  | k + 1 => Ent.ok_of (pe := p_spec_l1Num) (fn := Tryz.f54) (hs := h_spec_l1Num) envC (ok_cons (okr_spec_l1Num k) ok_nil) Tryz.func54 (by decide +kernel) (by kernel_rfl) rfl
noncomputable def e_spec_l1Num : Ent := r_spec_l1Num 40
theorem ok_spec_l1Num : e_spec_l1Num.Ok Tryz.prog := okr_spec_l1Num 40

/-- loop.example/g00300/spec.l6Soa -/
def h_spec_l6Soa : List (Nat × Hint) := []
noncomputable def p_spec_l6Soa : PE := (comp tysC [e_spec_l1Num] h_spec_l6Soa Tryz.f41 [(.vw, (.pair .str (.pair (.int .i64) (.pair (.lst false (.pair .str (.pair (.int .i64) (.pair (.int .i64) (.pair .str .unit))))) .unit))))] true .str).getD .bot
noncomputable def e_spec_l6Soa : Ent := ⟨41, [(.vw, (.pair .str (.pair (.int .i64) (.pair (.lst false (.pair .str (.pair (.int .i64) (.pair (.int .i64) (.pair .str .unit))))) .unit))))], true, .str, runPE [e_spec_l1Num] p_spec_l6Soa⟩
theorem ok_spec_l6Soa : e_spec_l6Soa.Ok Tryz.prog := Ent.ok_of (pe := p_spec_l6Soa) (fn := Tryz.f41) (hs := h_spec_l6Soa) envC (ok_cons ok_spec_l1Num ok_nil) Tryz.func41 (by decide +kernel) (some_getD (d := PE.bot) (by kernel_rfl)) rfl

/-- loop.example/g00300/spec.GoodZone -/
def h_spec_GoodZone : List (Nat × Hint) := [(58, .loop ⟨[1, 18, 19], [(20, 0, (.int .i64))]⟩ [(1, ⟨[], [(2, 0, .bool)]⟩), (2, ⟨[], []⟩)]), (3737, .join [(0, ⟨[1, 18, 19, 20], [(33, 0, .bool)]⟩)]), (6, .join [(0, ⟨[1], [(16, 0, .bool)]⟩)])]
noncomputable def p_spec_GoodZone : PE := (comp tysC [e_spec_l1In, e_spec_RuleOf, e_spec_l6Soa] h_spec_GoodZone Tryz.f27 [(.vw, (.pair .str (.pair (.int .i64) (.pair (.lst false (.pair .str (.pair (.int .i64) (.pair (.int .i64) (.pair .str .unit))))) .unit))))] true .bool).getD .bot
noncomputable def e_spec_GoodZone : Ent := ⟨27, [(.vw, (.pair .str (.pair (.int .i64) (.pair (.lst false (.pair .str (.pair (.int .i64) (.pair (.int .i64) (.pair .str .unit))))) .unit))))], true, .bool, runPE [e_spec_l1In, e_spec_RuleOf, e_spec_l6Soa] p_spec_GoodZone⟩
theorem ok_spec_GoodZone : e_spec_GoodZone.Ok Tryz.prog := Ent.ok_of (pe := p_spec_GoodZone) (fn := Tryz.f27) (hs := h_spec_GoodZone) envC (ok_cons ok_spec_l1In (ok_cons ok_spec_RuleOf (ok_cons ok_spec_l6Soa ok_nil))) Tryz.func27 (by decide +kernel) (some_getD (d := PE.bot) (by kernel_rfl)) rfl

/-- loop.example/g00300/spec.GoodControl -/
def h_spec_GoodControl : List (Nat × Hint) := [(7, .join [(0, ⟨[], [(2, 0, .bool)]⟩)]), (26, .loop ⟨[1, 6, 7], [(8, 0, (.int .i64))]⟩ [(1, ⟨[2], []⟩), (2, ⟨[1], []⟩)]), (1689, .join [(0, ⟨[1, 6, 7, 8], [(46, 0, .bool)]⟩)])]
noncomputable def p_spec_GoodControl : PE := (comp tysC [e_spec_l16Who, e_spec_l1In, e_spec_l5Serial, e_spec_GoodZone] h_spec_GoodControl Tryz.f11 [(.vw, (.pair (.pair .str (.pair (.int .i64) (.pair (.lst false (.pair .str (.pair (.int .i64) (.pair (.int .i64) (.pair .str .unit))))) .unit))) (.pair (.lst false (.pair (.int .i64) (.pair (.int .i64) (.pair (.int .i64) (.pair (.int .i64) .unit))))) (.pair (.int .i64) .unit))))] true .bool).getD .bot
noncomputable def e_spec_GoodControl : Ent := ⟨11, [(.vw, (.pair (.pair .str (.pair (.int .i64) (.pair (.lst false (.pair .str (.pair (.int .i64) (.pair (.int .i64) (.pair .str .unit))))) .unit))) (.pair (.lst false (.pair (.int .i64) (.pair (.int .i64) (.pair (.int .i64) (.pair (.int .i64) .unit))))) (.pair (.int .i64) .unit))))], true, .bool, runPE [e_spec_l16Who, e_spec_l1In, e_spec_l5Serial, e_spec_GoodZone] p_spec_GoodControl⟩
theorem ok_spec_GoodControl : e_spec_GoodControl.Ok Tryz.prog := Ent.ok_of (pe := p_spec_GoodControl) (fn := Tryz.f11) (hs := h_spec_GoodControl) envC (ok_cons ok_spec_l16Who (ok_cons ok_spec_l1In (ok_cons ok_spec_l5Serial (ok_cons ok_spec_GoodZone ok_nil)))) Tryz.func11 (by decide +kernel) (some_getD (d := PE.bot) (by kernel_rfl)) rfl

/-- loop.example/g00300/impl.isClient -/
def h_impl_isClient : List (Nat × Hint) := [(3, .join [(0, ⟨[], [(4, 0, .bool)]⟩)])]
noncomputable def p_impl_isClient : PE := (comp tysC [e_impl_within] h_impl_isClient Tryz.f32 [(.vw, (.int .i64)), (.vw, (.int .i64))] true .bool).getD .bot
noncomputable def e_impl_isClient : Ent := ⟨32, [(.vw, (.int .i64)), (.vw, (.int .i64))], true, .bool, runPE [e_impl_within] p_impl_isClient⟩
theorem ok_impl_isClient : e_impl_isClient.Ok Tryz.prog := Ent.ok_of (pe := p_impl_isClient) (fn := Tryz.f32) (hs := h_impl_isClient) envC (ok_cons ok_impl_within ok_nil) Tryz.func32 (by decide +kernel) (some_getD (d := PE.bot) (by kernel_rfl)) rfl

/-- loop.example/g00300/impl.isSerial -/
def h_impl_isSerial : List (Nat × Hint) := []
noncomputable def p_impl_isSerial : PE := (comp tysC [e_impl_within] h_impl_isSerial Tryz.f33 [(.vw, (.int .i64))] true .bool).getD .bot
noncomputable def e_impl_isSerial : Ent := ⟨33, [(.vw, (.int .i64))], true, .bool, runPE [e_impl_within] p_impl_isSerial⟩
theorem ok_impl_isSerial : e_impl_isSerial.Ok Tryz.prog := Ent.ok_of (pe := p_impl_isSerial) (fn := Tryz.f33) (hs := h_impl_isSerial) envC (ok_cons ok_impl_within ok_nil) Tryz.func33 (by decide +kernel) (some_getD (d := PE.bot) (by kernel_rfl)) rfl

/-- loop.example/g00300/impl.GoodControl -/
def h_impl_GoodControl : List (Nat × Hint) := [(58, .loop ⟨[1, 22, 23], [(24, 0, (.int .i64))]⟩ [(1, ⟨[], [(2, 0, .bool)]⟩), (2, ⟨[], []⟩)]), (3737, .join [(0, ⟨[1, 22, 23, 24], [(62, 0, .bool)]⟩)]), (6, .join [(0, ⟨[1], [(20, 0, .bool)]⟩)])]
noncomputable def p_impl_GoodControl : PE := (comp tysC [e_impl_GoodZone, e_impl_within, e_impl_isClient, e_impl_isSerial] h_impl_GoodControl Tryz.f13 [(.vw, (.pair (.pair .str (.pair (.int .i64) (.pair (.lst false (.pair .str (.pair (.int .i64) (.pair (.int .i64) (.pair .str .unit))))) .unit))) (.pair (.lst false (.pair (.int .i64) (.pair (.int .i64) (.pair (.int .i64) (.pair (.int .i64) .unit))))) (.pair (.int .i64) .unit))))] true .bool).getD .bot
noncomputable def e_impl_GoodControl : Ent := ⟨13, [(.vw, (.pair (.pair .str (.pair (.int .i64) (.pair (.lst false (.pair .str (.pair (.int .i64) (.pair (.int .i64) (.pair .str .unit))))) .unit))) (.pair (.lst false (.pair (.int .i64) (.pair (.int .i64) (.pair (.int .i64) (.pair (.int .i64) .unit))))) (.pair (.int .i64) .unit))))], true, .bool, runPE [e_impl_GoodZone, e_impl_within, e_impl_isClient, e_impl_isSerial] p_impl_GoodControl⟩
theorem ok_impl_GoodControl : e_impl_GoodControl.Ok Tryz.prog := Ent.ok_of (pe := p_impl_GoodControl) (fn := Tryz.f13) (hs := h_impl_GoodControl) envC (ok_cons ok_impl_GoodZone (ok_cons ok_impl_within (ok_cons ok_impl_isClient (ok_cons ok_impl_isSerial ok_nil)))) Tryz.func13 (by decide +kernel) (some_getD (d := PE.bot) (by kernel_rfl)) rfl

/-- loop.example/g00300/laws.FnExactGoodControl -/
def h_laws_FnExactGoodControl : List (Nat × Hint) := []
noncomputable def p_laws_FnExactGoodControl : PE := (comp tysC [e_laws_szControl, e_laws_toControl, e_spec_GoodControl, e_impl_GoodControl, e_laws_eqControl] h_laws_FnExactGoodControl Tryz.f4 [(.vw, (.pair (.pair .str (.pair (.int .i64) (.pair (.lst false (.pair .str (.pair (.int .i64) (.pair (.int .i64) (.pair .str .unit))))) .unit))) (.pair (.lst false (.pair (.int .i64) (.pair (.int .i64) (.pair (.int .i64) (.pair (.int .i64) .unit))))) (.pair (.int .i64) .unit))))] true .bool).getD .bot
noncomputable def e_laws_FnExactGoodControl : Ent := ⟨4, [(.vw, (.pair (.pair .str (.pair (.int .i64) (.pair (.lst false (.pair .str (.pair (.int .i64) (.pair (.int .i64) (.pair .str .unit))))) .unit))) (.pair (.lst false (.pair (.int .i64) (.pair (.int .i64) (.pair (.int .i64) (.pair (.int .i64) .unit))))) (.pair (.int .i64) .unit))))], true, .bool, runPE [e_laws_szControl, e_laws_toControl, e_spec_GoodControl, e_impl_GoodControl, e_laws_eqControl] p_laws_FnExactGoodControl⟩
theorem ok_laws_FnExactGoodControl : e_laws_FnExactGoodControl.Ok Tryz.prog := Ent.ok_of (pe := p_laws_FnExactGoodControl) (fn := Tryz.f4) (hs := h_laws_FnExactGoodControl) envC (ok_cons ok_laws_szControl (ok_cons ok_laws_toControl (ok_cons ok_spec_GoodControl (ok_cons ok_impl_GoodControl (ok_cons ok_laws_eqControl ok_nil))))) Tryz.func4 (by decide +kernel) (some_getD (d := PE.bot) (by kernel_rfl)) rfl

end Go.Proofs.YtlflhlgppbbahaaGreatDoor
