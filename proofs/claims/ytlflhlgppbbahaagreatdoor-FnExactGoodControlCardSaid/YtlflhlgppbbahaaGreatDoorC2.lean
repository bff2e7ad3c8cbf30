/- The functions that the law reaches, each as a program of expressions. -/
import Derived.Test.YtlflhlgppbbahaaGreatDoorC
import Derived.Test.YtlflhlgppbbahaaGreatDoorLays
set_option linter.unusedSectionVars false
set_option linter.unusedVariables false
set_option linter.unusedSimpArgs false
namespace Go.Proofs.YtlflhlgppbbahaaGreatDoor
open Go Go.Own
set_option maxRecDepth 100000
/-- loop.example/g00300/laws.eqRecord -/
def h_laws_eqRecord : List (Nat × Hint) := []
noncomputable def p_laws_eqRecord : PE := (comp tysC [] h_laws_eqRecord Tryz.f49 [(.vw, (.pair .str (.pair (.int .i64) (.pair (.int .i64) (.pair .str .unit))))), (.vw, (.pair .str (.pair (.int .i64) (.pair (.int .i64) (.pair .str .unit)))))] true .bool).getD .bot
noncomputable def e_laws_eqRecord : Ent := ⟨49, [(.vw, (.pair .str (.pair (.int .i64) (.pair (.int .i64) (.pair .str .unit))))), (.vw, (.pair .str (.pair (.int .i64) (.pair (.int .i64) (.pair .str .unit)))))], true, .bool, runPE [] p_laws_eqRecord⟩
theorem ok_laws_eqRecord : e_laws_eqRecord.Ok Tryz.prog := Ent.ok_of (pe := p_laws_eqRecord) (fn := Tryz.f49) (hs := h_laws_eqRecord) envC ok_nil Tryz.func49 (by decide +kernel) (some_getD (d := PE.bot) (by kernel_rfl)) rfl

/-- loop.example/g00300/laws.eqRecordS -/
def h_laws_eqRecordS : List (Nat × Hint) := [(58, .loop ⟨[0, 1], [(5, 0, (.int .i64))]⟩ [(1, ⟨[4], []⟩), (2, ⟨[], []⟩)])]
noncomputable def p_laws_eqRecordS : PE := (comp tysC [e_laws_eqRecord] h_laws_eqRecordS Tryz.f35 [(.vw, (.lst false (.pair .str (.pair (.int .i64) (.pair (.int .i64) (.pair .str .unit)))))), (.vw, (.lst false (.pair .str (.pair (.int .i64) (.pair (.int .i64) (.pair .str .unit))))))] true .bool).getD .bot
noncomputable def e_laws_eqRecordS : Ent := ⟨35, [(.vw, (.lst false (.pair .str (.pair (.int .i64) (.pair (.int .i64) (.pair .str .unit)))))), (.vw, (.lst false (.pair .str (.pair (.int .i64) (.pair (.int .i64) (.pair .str .unit))))))], true, .bool, runPE [e_laws_eqRecord] p_laws_eqRecordS⟩
theorem ok_laws_eqRecordS : e_laws_eqRecordS.Ok Tryz.prog := Ent.ok_of (pe := p_laws_eqRecordS) (fn := Tryz.f35) (hs := h_laws_eqRecordS) envC (ok_cons ok_laws_eqRecord ok_nil) Tryz.func35 (by decide +kernel) (some_getD (d := PE.bot) (by kernel_rfl)) rfl

/-- loop.example/g00300/laws.eqZone -/
def h_laws_eqZone : List (Nat × Hint) := []
noncomputable def p_laws_eqZone : PE := (comp tysC [e_laws_eqRecordS] h_laws_eqZone Tryz.f16 [(.vw, (.pair .str (.pair (.int .i64) (.pair (.lst false (.pair .str (.pair (.int .i64) (.pair (.int .i64) (.pair .str .unit))))) .unit)))), (.vw, (.pair .str (.pair (.int .i64) (.pair (.lst false (.pair .str (.pair (.int .i64) (.pair (.int .i64) (.pair .str .unit))))) .unit))))] true .bool).getD .bot
noncomputable def e_laws_eqZone : Ent := ⟨16, [(.vw, (.pair .str (.pair (.int .i64) (.pair (.lst false (.pair .str (.pair (.int .i64) (.pair (.int .i64) (.pair .str .unit))))) .unit)))), (.vw, (.pair .str (.pair (.int .i64) (.pair (.lst false (.pair .str (.pair (.int .i64) (.pair (.int .i64) (.pair .str .unit))))) .unit))))], true, .bool, runPE [e_laws_eqRecordS] p_laws_eqZone⟩
theorem ok_laws_eqZone : e_laws_eqZone.Ok Tryz.prog := Ent.ok_of (pe := p_laws_eqZone) (fn := Tryz.f16) (hs := h_laws_eqZone) envC (ok_cons ok_laws_eqRecordS ok_nil) Tryz.func16 (by decide +kernel) (some_getD (d := PE.bot) (by kernel_rfl)) rfl

/-- loop.example/g00300/laws.eqDone -/
def h_laws_eqDone : List (Nat × Hint) := []
noncomputable def p_laws_eqDone : PE := (comp tysC [] h_laws_eqDone Tryz.f36 [(.vw, (.pair (.int .i64) (.pair (.int .i64) (.pair (.int .i64) (.pair (.int .i64) .unit))))), (.vw, (.pair (.int .i64) (.pair (.int .i64) (.pair (.int .i64) (.pair (.int .i64) .unit)))))] true .bool).getD .bot
noncomputable def e_laws_eqDone : Ent := ⟨36, [(.vw, (.pair (.int .i64) (.pair (.int .i64) (.pair (.int .i64) (.pair (.int .i64) .unit))))), (.vw, (.pair (.int .i64) (.pair (.int .i64) (.pair (.int .i64) (.pair (.int .i64) .unit)))))], true, .bool, runPE [] p_laws_eqDone⟩
theorem ok_laws_eqDone : e_laws_eqDone.Ok Tryz.prog := Ent.ok_of (pe := p_laws_eqDone) (fn := Tryz.f36) (hs := h_laws_eqDone) envC ok_nil Tryz.func36 (by decide +kernel) (some_getD (d := PE.bot) (by kernel_rfl)) rfl

/-- loop.example/g00300/laws.eqDoneS -/
def h_laws_eqDoneS : List (Nat × Hint) := [(58, .loop ⟨[0, 1], [(5, 0, (.int .i64))]⟩ [(1, ⟨[4], []⟩), (2, ⟨[], []⟩)])]
noncomputable def p_laws_eqDoneS : PE := (comp tysC [e_laws_eqDone] h_laws_eqDoneS Tryz.f17 [(.vw, (.lst false (.pair (.int .i64) (.pair (.int .i64) (.pair (.int .i64) (.pair (.int .i64) .unit)))))), (.vw, (.lst false (.pair (.int .i64) (.pair (.int .i64) (.pair (.int .i64) (.pair (.int .i64) .unit))))))] true .bool).getD .bot
noncomputable def e_laws_eqDoneS : Ent := ⟨17, [(.vw, (.lst false (.pair (.int .i64) (.pair (.int .i64) (.pair (.int .i64) (.pair (.int .i64) .unit)))))), (.vw, (.lst false (.pair (.int .i64) (.pair (.int .i64) (.pair (.int .i64) (.pair (.int .i64) .unit))))))], true, .bool, runPE [e_laws_eqDone] p_laws_eqDoneS⟩
theorem ok_laws_eqDoneS : e_laws_eqDoneS.Ok Tryz.prog := Ent.ok_of (pe := p_laws_eqDoneS) (fn := Tryz.f17) (hs := h_laws_eqDoneS) envC (ok_cons ok_laws_eqDone ok_nil) Tryz.func17 (by decide +kernel) (some_getD (d := PE.bot) (by kernel_rfl)) rfl

/-- loop.example/g00300/laws.eqControl -/
def h_laws_eqControl : List (Nat × Hint) := []
noncomputable def p_laws_eqControl : PE := (comp tysC [e_laws_eqZone, e_laws_eqDoneS] h_laws_eqControl Tryz.f7 [(.vw, (.pair (.pair .str (.pair (.int .i64) (.pair (.lst false (.pair .str (.pair (.int .i64) (.pair (.int .i64) (.pair .str .unit))))) .unit))) (.pair (.lst false (.pair (.int .i64) (.pair (.int .i64) (.pair (.int .i64) (.pair (.int .i64) .unit))))) (.pair (.int .i64) .unit)))), (.vw, (.pair (.pair .str (.pair (.int .i64) (.pair (.lst false (.pair .str (.pair (.int .i64) (.pair (.int .i64) (.pair .str .unit))))) .unit))) (.pair (.lst false (.pair (.int .i64) (.pair (.int .i64) (.pair (.int .i64) (.pair (.int .i64) .unit))))) (.pair (.int .i64) .unit))))] true .bool).getD .bot
noncomputable def e_laws_eqControl : Ent := ⟨7, [(.vw, (.pair (.pair .str (.pair (.int .i64) (.pair (.lst false (.pair .str (.pair (.int .i64) (.pair (.int .i64) (.pair .str .unit))))) .unit))) (.pair (.lst false (.pair (.int .i64) (.pair (.int .i64) (.pair (.int .i64) (.pair (.int .i64) .unit))))) (.pair (.int .i64) .unit)))), (.vw, (.pair (.pair .str (.pair (.int .i64) (.pair (.lst false (.pair .str (.pair (.int .i64) (.pair (.int .i64) (.pair .str .unit))))) .unit))) (.pair (.lst false (.pair (.int .i64) (.pair (.int .i64) (.pair (.int .i64) (.pair (.int .i64) .unit))))) (.pair (.int .i64) .unit))))], true, .bool, runPE [e_laws_eqZone, e_laws_eqDoneS] p_laws_eqControl⟩
theorem ok_laws_eqControl : e_laws_eqControl.Ok Tryz.prog := Ent.ok_of (pe := p_laws_eqControl) (fn := Tryz.f7) (hs := h_laws_eqControl) envC (ok_cons ok_laws_eqZone (ok_cons ok_laws_eqDoneS ok_nil)) Tryz.func7 (by decide +kernel) (some_getD (d := PE.bot) (by kernel_rfl)) rfl

/-- loop.example/g00300/laws.markText -/
def h_laws_markText : List (Nat × Hint) := [(60, .loop ⟨[], [(0, 0, (.int .i64)), (3, 0, .str)]⟩ [(2, ⟨[], [(3, 0, .str)]⟩)])]
noncomputable def p_laws_markText : PE := (comp tysC [] h_laws_markText Tryz.f50 [(.vw, (.int .i64))] true .str).getD .bot
noncomputable def e_laws_markText : Ent := ⟨50, [(.vw, (.int .i64))], true, .str, runPE [] p_laws_markText⟩
theorem ok_laws_markText : e_laws_markText.Ok Tryz.prog := Ent.ok_of (pe := p_laws_markText) (fn := Tryz.f50) (hs := h_laws_markText) envC ok_nil Tryz.func50 (by decide +kernel) (some_getD (d := PE.bot) (by kernel_rfl)) rfl

/-- loop.example/g00300/laws.markRecordS -/
def h_laws_markRecordS : List (Nat × Hint) := [(26, .loop ⟨[], [(0, 0, (.lst true (.pair .str (.pair (.int .i64) (.pair (.int .i64) (.pair .str .unit)))))), (1, 0, (.int .i64)), (5, 0, (.int .i64))]⟩ [(2, ⟨[], [(0, 0, (.lst true (.pair .str (.pair (.int .i64) (.pair (.int .i64) (.pair .str .unit)))))), (1, 0, (.int .i64))]⟩)])]
noncomputable def p_laws_markRecordS : PE := (comp tysC [e_laws_markText] h_laws_markRecordS Tryz.f37 [(.io, (.lst true (.pair .str (.pair (.int .i64) (.pair (.int .i64) (.pair .str .unit)))))), (.vw, (.int .i64))] true (.int .i64)).getD .bot
noncomputable def e_laws_markRecordS : Ent := ⟨37, [(.io, (.lst true (.pair .str (.pair (.int .i64) (.pair (.int .i64) (.pair .str .unit)))))), (.vw, (.int .i64))], true, (.int .i64), runPE [e_laws_markText] p_laws_markRecordS⟩
theorem ok_laws_markRecordS : e_laws_markRecordS.Ok Tryz.prog := Ent.ok_of (pe := p_laws_markRecordS) (fn := Tryz.f37) (hs := h_laws_markRecordS) envC (ok_cons ok_laws_markText ok_nil) Tryz.func37 (by decide +kernel) (some_getD (d := PE.bot) (by kernel_rfl)) rfl

/-- loop.example/g00300/laws.markZone -/
def h_laws_markZone : List (Nat × Hint) := []
noncomputable def p_laws_markZone : PE := (comp tysC [e_laws_markRecordS] h_laws_markZone Tryz.f18 [(.io, (.pair .str (.pair (.int .i64) (.pair (.lst true (.pair .str (.pair (.int .i64) (.pair (.int .i64) (.pair .str .unit))))) .unit)))), (.vw, (.int .i64))] true (.int .i64)).getD .bot
noncomputable def e_laws_markZone : Ent := ⟨18, [(.io, (.pair .str (.pair (.int .i64) (.pair (.lst true (.pair .str (.pair (.int .i64) (.pair (.int .i64) (.pair .str .unit))))) .unit)))), (.vw, (.int .i64))], true, (.int .i64), runPE [e_laws_markRecordS] p_laws_markZone⟩
theorem ok_laws_markZone : e_laws_markZone.Ok Tryz.prog := Ent.ok_of (pe := p_laws_markZone) (fn := Tryz.f18) (hs := h_laws_markZone) envC (ok_cons ok_laws_markRecordS ok_nil) Tryz.func18 (by decide +kernel) (some_getD (d := PE.bot) (by kernel_rfl)) rfl

/-- loop.example/g00300/laws.markDoneS -/
def h_laws_markDoneS : List (Nat × Hint) := [(26, .loop ⟨[], [(0, 0, (.lst true (.pair (.int .i64) (.pair (.int .i64) (.pair (.int .i64) (.pair (.int .i64) .unit)))))), (1, 0, (.int .i64)), (5, 0, (.int .i64))]⟩ [(2, ⟨[], [(0, 0, (.lst true (.pair (.int .i64) (.pair (.int .i64) (.pair (.int .i64) (.pair (.int .i64) .unit)))))), (1, 0, (.int .i64))]⟩)])]
noncomputable def p_laws_markDoneS : PE := (comp tysC [] h_laws_markDoneS Tryz.f19 [(.io, (.lst true (.pair (.int .i64) (.pair (.int .i64) (.pair (.int .i64) (.pair (.int .i64) .unit)))))), (.vw, (.int .i64))] true (.int .i64)).getD .bot
noncomputable def e_laws_markDoneS : Ent := ⟨19, [(.io, (.lst true (.pair (.int .i64) (.pair (.int .i64) (.pair (.int .i64) (.pair (.int .i64) .unit)))))), (.vw, (.int .i64))], true, (.int .i64), runPE [] p_laws_markDoneS⟩
theorem ok_laws_markDoneS : e_laws_markDoneS.Ok Tryz.prog := Ent.ok_of (pe := p_laws_markDoneS) (fn := Tryz.f19) (hs := h_laws_markDoneS) envC ok_nil Tryz.func19 (by decide +kernel) (some_getD (d := PE.bot) (by kernel_rfl)) rfl

/-- loop.example/g00300/laws.markControl -/
def h_laws_markControl : List (Nat × Hint) := []
noncomputable def p_laws_markControl : PE := (comp tysC [e_laws_markZone, e_laws_markDoneS] h_laws_markControl Tryz.f8 [(.io, (.pair (.pair .str (.pair (.int .i64) (.pair (.lst true (.pair .str (.pair (.int .i64) (.pair (.int .i64) (.pair .str .unit))))) .unit))) (.pair (.lst true (.pair (.int .i64) (.pair (.int .i64) (.pair (.int .i64) (.pair (.int .i64) .unit))))) (.pair (.int .i64) .unit)))), (.vw, (.int .i64))] true (.int .i64)).getD .bot
noncomputable def e_laws_markControl : Ent := ⟨8, [(.io, (.pair (.pair .str (.pair (.int .i64) (.pair (.lst true (.pair .str (.pair (.int .i64) (.pair (.int .i64) (.pair .str .unit))))) .unit))) (.pair (.lst true (.pair (.int .i64) (.pair (.int .i64) (.pair (.int .i64) (.pair (.int .i64) .unit))))) (.pair (.int .i64) .unit)))), (.vw, (.int .i64))], true, (.int .i64), runPE [e_laws_markZone, e_laws_markDoneS] p_laws_markControl⟩
theorem ok_laws_markControl : e_laws_markControl.Ok Tryz.prog := Ent.ok_of (pe := p_laws_markControl) (fn := Tryz.f8) (hs := h_laws_markControl) envC (ok_cons ok_laws_markZone (ok_cons ok_laws_markDoneS ok_nil)) Tryz.func8 (by decide +kernel) (some_getD (d := PE.bot) (by kernel_rfl)) rfl

/-- loop.example/g00300/laws.heldRecordS -/
def h_laws_heldRecordS : List (Nat × Hint) := [(26, .loop ⟨[0], [(1, 0, (.int .i64)), (5, 0, (.int .i64))]⟩ [(1, ⟨[], [(4, 0, (.int .i64))]⟩), (2, ⟨[], [(1, 0, (.int .i64))]⟩)])]
noncomputable def p_laws_heldRecordS : PE := (comp tysC [e_laws_markText] h_laws_heldRecordS Tryz.f38 [(.vw, (.lst false (.pair .str (.pair (.int .i64) (.pair (.int .i64) (.pair .str .unit)))))), (.vw, (.int .i64))] true (.int .i64)).getD .bot
noncomputable def e_laws_heldRecordS : Ent := ⟨38, [(.vw, (.lst false (.pair .str (.pair (.int .i64) (.pair (.int .i64) (.pair .str .unit)))))), (.vw, (.int .i64))], true, (.int .i64), runPE [e_laws_markText] p_laws_heldRecordS⟩
theorem ok_laws_heldRecordS : e_laws_heldRecordS.Ok Tryz.prog := Ent.ok_of (pe := p_laws_heldRecordS) (fn := Tryz.f38) (hs := h_laws_heldRecordS) envC (ok_cons ok_laws_markText ok_nil) Tryz.func38 (by decide +kernel) (some_getD (d := PE.bot) (by kernel_rfl)) rfl

/-- loop.example/g00300/laws.heldZone -/
def h_laws_heldZone : List (Nat × Hint) := []
noncomputable def p_laws_heldZone : PE := (comp tysC [e_laws_heldRecordS] h_laws_heldZone Tryz.f20 [(.vw, (.pair .str (.pair (.int .i64) (.pair (.lst false (.pair .str (.pair (.int .i64) (.pair (.int .i64) (.pair .str .unit))))) .unit)))), (.vw, (.int .i64))] true (.int .i64)).getD .bot
noncomputable def e_laws_heldZone : Ent := ⟨20, [(.vw, (.pair .str (.pair (.int .i64) (.pair (.lst false (.pair .str (.pair (.int .i64) (.pair (.int .i64) (.pair .str .unit))))) .unit)))), (.vw, (.int .i64))], true, (.int .i64), runPE [e_laws_heldRecordS] p_laws_heldZone⟩
theorem ok_laws_heldZone : e_laws_heldZone.Ok Tryz.prog := Ent.ok_of (pe := p_laws_heldZone) (fn := Tryz.f20) (hs := h_laws_heldZone) envC (ok_cons ok_laws_heldRecordS ok_nil) Tryz.func20 (by decide +kernel) (some_getD (d := PE.bot) (by kernel_rfl)) rfl

/-- loop.example/g00300/laws.heldDoneS -/
def h_laws_heldDoneS : List (Nat × Hint) := [(26, .loop ⟨[0], [(1, 0, (.int .i64)), (5, 0, (.int .i64))]⟩ [(1, ⟨[], [(4, 0, (.int .i64))]⟩), (2, ⟨[], [(1, 0, (.int .i64))]⟩)])]
noncomputable def p_laws_heldDoneS : PE := (comp tysC [] h_laws_heldDoneS Tryz.f21 [(.vw, (.lst false (.pair (.int .i64) (.pair (.int .i64) (.pair (.int .i64) (.pair (.int .i64) .unit)))))), (.vw, (.int .i64))] true (.int .i64)).getD .bot
noncomputable def e_laws_heldDoneS : Ent := ⟨21, [(.vw, (.lst false (.pair (.int .i64) (.pair (.int .i64) (.pair (.int .i64) (.pair (.int .i64) .unit)))))), (.vw, (.int .i64))], true, (.int .i64), runPE [] p_laws_heldDoneS⟩
theorem ok_laws_heldDoneS : e_laws_heldDoneS.Ok Tryz.prog := Ent.ok_of (pe := p_laws_heldDoneS) (fn := Tryz.f21) (hs := h_laws_heldDoneS) envC ok_nil Tryz.func21 (by decide +kernel) (some_getD (d := PE.bot) (by kernel_rfl)) rfl

/-- loop.example/g00300/laws.heldControl -/
def h_laws_heldControl : List (Nat × Hint) := []
noncomputable def p_laws_heldControl : PE := (comp tysC [e_laws_heldZone, e_laws_heldDoneS] h_laws_heldControl Tryz.f9 [(.vw, (.pair (.pair .str (.pair (.int .i64) (.pair (.lst false (.pair .str (.pair (.int .i64) (.pair (.int .i64) (.pair .str .unit))))) .unit))) (.pair (.lst false (.pair (.int .i64) (.pair (.int .i64) (.pair (.int .i64) (.pair (.int .i64) .unit))))) (.pair (.int .i64) .unit)))), (.vw, (.int .i64))] true (.int .i64)).getD .bot
noncomputable def e_laws_heldControl : Ent := ⟨9, [(.vw, (.pair (.pair .str (.pair (.int .i64) (.pair (.lst false (.pair .str (.pair (.int .i64) (.pair (.int .i64) (.pair .str .unit))))) .unit))) (.pair (.lst false (.pair (.int .i64) (.pair (.int .i64) (.pair (.int .i64) (.pair (.int .i64) .unit))))) (.pair (.int .i64) .unit)))), (.vw, (.int .i64))], true, (.int .i64), runPE [e_laws_heldZone, e_laws_heldDoneS] p_laws_heldControl⟩
theorem ok_laws_heldControl : e_laws_heldControl.Ok Tryz.prog := Ent.ok_of (pe := p_laws_heldControl) (fn := Tryz.f9) (hs := h_laws_heldControl) envC (ok_cons ok_laws_heldZone (ok_cons ok_laws_heldDoneS ok_nil)) Tryz.func9 (by decide +kernel) (some_getD (d := PE.bot) (by kernel_rfl)) rfl

/-- loop.example/g00300/laws.FnExactNewControl -/
def h_laws_FnExactNewControl : List (Nat × Hint) := [(16382, .join [(0, ⟨[5, 7], [(57, 0, .bool)]⟩)]), (62, .join [(0, ⟨[0, 3, 4, 5], [(32, 0, .bool)]⟩)])]
noncomputable def p_laws_FnExactNewControl : PE := (comp tysC [e_spec_NewControl, e_impl_NewControl, e_laws_eqControl, e_laws_markControl, e_laws_heldControl] h_laws_FnExactNewControl Tryz.f3 [(.vw, .str)] true .bool).getD .bot
noncomputable def e_laws_FnExactNewControl : Ent := ⟨3, [(.vw, .str)], true, .bool, runPE [e_spec_NewControl, e_impl_NewControl, e_laws_eqControl, e_laws_markControl, e_laws_heldControl] p_laws_FnExactNewControl⟩
theorem ok_laws_FnExactNewControl : e_laws_FnExactNewControl.Ok Tryz.prog := Ent.ok_of (pe := p_laws_FnExactNewControl) (fn := Tryz.f3) (hs := h_laws_FnExactNewControl) envC (ok_cons ok_spec_NewControl (ok_cons ok_impl_NewControl (ok_cons ok_laws_eqControl (ok_cons ok_laws_markControl (ok_cons ok_laws_heldControl ok_nil))))) Tryz.func3 (by decide +kernel) (some_getD (d := PE.bot) (by kernel_rfl)) rfl

/-- loop.example/g00300/laws.szRecord -/
def h_laws_szRecord : List (Nat × Hint) := []
noncomputable def p_laws_szRecord : PE := (comp tysC [] h_laws_szRecord Tryz.f51 [(.vw, (.pair .str (.pair (.int .i64) (.pair (.int .i64) (.pair .str .unit))))), (.vw, (.int .i64))] true (.int .i64)).getD .bot
noncomputable def e_laws_szRecord : Ent := ⟨51, [(.vw, (.pair .str (.pair (.int .i64) (.pair (.int .i64) (.pair .str .unit))))), (.vw, (.int .i64))], true, (.int .i64), runPE [] p_laws_szRecord⟩
theorem ok_laws_szRecord : e_laws_szRecord.Ok Tryz.prog := Ent.ok_of (pe := p_laws_szRecord) (fn := Tryz.f51) (hs := h_laws_szRecord) envC ok_nil Tryz.func51 (by decide +kernel) (some_getD (d := PE.bot) (by kernel_rfl)) rfl

/-- loop.example/g00300/laws.szRecordS -/
def h_laws_szRecordS : List (Nat × Hint) := [(122, .loop ⟨[0], [(1, 0, (.int .i64)), (5, 0, (.int .i64))]⟩ [(1, ⟨[], [(4, 0, (.int .i64))]⟩), (2, ⟨[], [(1, 0, (.int .i64))]⟩)])]
noncomputable def p_laws_szRecordS : PE := (comp tysC [e_laws_szRecord] h_laws_szRecordS Tryz.f39 [(.vw, (.lst false (.pair .str (.pair (.int .i64) (.pair (.int .i64) (.pair .str .unit)))))), (.vw, (.int .i64))] true (.int .i64)).getD .bot
noncomputable def e_laws_szRecordS : Ent := ⟨39, [(.vw, (.lst false (.pair .str (.pair (.int .i64) (.pair (.int .i64) (.pair .str .unit)))))), (.vw, (.int .i64))], true, (.int .i64), runPE [e_laws_szRecord] p_laws_szRecordS⟩
theorem ok_laws_szRecordS : e_laws_szRecordS.Ok Tryz.prog := Ent.ok_of (pe := p_laws_szRecordS) (fn := Tryz.f39) (hs := h_laws_szRecordS) envC (ok_cons ok_laws_szRecord ok_nil) Tryz.func39 (by decide +kernel) (some_getD (d := PE.bot) (by kernel_rfl)) rfl

/-- loop.example/g00300/laws.szZone -/
def h_laws_szZone : List (Nat × Hint) := []
noncomputable def p_laws_szZone : PE := (comp tysC [e_laws_szRecordS] h_laws_szZone Tryz.f22 [(.vw, (.pair .str (.pair (.int .i64) (.pair (.lst false (.pair .str (.pair (.int .i64) (.pair (.int .i64) (.pair .str .unit))))) .unit)))), (.vw, (.int .i64))] true (.int .i64)).getD .bot
noncomputable def e_laws_szZone : Ent := ⟨22, [(.vw, (.pair .str (.pair (.int .i64) (.pair (.lst false (.pair .str (.pair (.int .i64) (.pair (.int .i64) (.pair .str .unit))))) .unit)))), (.vw, (.int .i64))], true, (.int .i64), runPE [e_laws_szRecordS] p_laws_szZone⟩
theorem ok_laws_szZone : e_laws_szZone.Ok Tryz.prog := Ent.ok_of (pe := p_laws_szZone) (fn := Tryz.f22) (hs := h_laws_szZone) envC (ok_cons ok_laws_szRecordS ok_nil) Tryz.func22 (by decide +kernel) (some_getD (d := PE.bot) (by kernel_rfl)) rfl

/-- loop.example/g00300/laws.szDoneS -/
def h_laws_szDoneS : List (Nat × Hint) := []
noncomputable def p_laws_szDoneS : PE := (comp tysC [] h_laws_szDoneS Tryz.f23 [(.vw, (.lst false (.pair (.int .i64) (.pair (.int .i64) (.pair (.int .i64) (.pair (.int .i64) .unit)))))), (.vw, (.int .i64))] true (.int .i64)).getD .bot
noncomputable def e_laws_szDoneS : Ent := ⟨23, [(.vw, (.lst false (.pair (.int .i64) (.pair (.int .i64) (.pair (.int .i64) (.pair (.int .i64) .unit)))))), (.vw, (.int .i64))], true, (.int .i64), runPE [] p_laws_szDoneS⟩
theorem ok_laws_szDoneS : e_laws_szDoneS.Ok Tryz.prog := Ent.ok_of (pe := p_laws_szDoneS) (fn := Tryz.f23) (hs := h_laws_szDoneS) envC ok_nil Tryz.func23 (by decide +kernel) (some_getD (d := PE.bot) (by kernel_rfl)) rfl

/-- loop.example/g00300/laws.szControl -/
def h_laws_szControl : List (Nat × Hint) := []
noncomputable def p_laws_szControl : PE := (comp tysC [e_laws_szZone, e_laws_szDoneS] h_laws_szControl Tryz.f10 [(.vw, (.pair (.pair .str (.pair (.int .i64) (.pair (.lst false (.pair .str (.pair (.int .i64) (.pair (.int .i64) (.pair .str .unit))))) .unit))) (.pair (.lst false (.pair (.int .i64) (.pair (.int .i64) (.pair (.int .i64) (.pair (.int .i64) .unit))))) (.pair (.int .i64) .unit)))), (.vw, (.int .i64))] true (.int .i64)).getD .bot
noncomputable def e_laws_szControl : Ent := ⟨10, [(.vw, (.pair (.pair .str (.pair (.int .i64) (.pair (.lst false (.pair .str (.pair (.int .i64) (.pair (.int .i64) (.pair .str .unit))))) .unit))) (.pair (.lst false (.pair (.int .i64) (.pair (.int .i64) (.pair (.int .i64) (.pair (.int .i64) .unit))))) (.pair (.int .i64) .unit)))), (.vw, (.int .i64))], true, (.int .i64), runPE [e_laws_szZone, e_laws_szDoneS] p_laws_szControl⟩
theorem ok_laws_szControl : e_laws_szControl.Ok Tryz.prog := Ent.ok_of (pe := p_laws_szControl) (fn := Tryz.f10) (hs := h_laws_szControl) envC (ok_cons ok_laws_szZone (ok_cons ok_laws_szDoneS ok_nil)) Tryz.func10 (by decide +kernel) (some_getD (d := PE.bot) (by kernel_rfl)) rfl

/-- loop.example/g00300/laws.toRecord -/
def h_laws_toRecord : List (Nat × Hint) := []
noncomputable def p_laws_toRecord : PE := (comp tysC [] h_laws_toRecord Tryz.f55 [(.vw, (.pair .str (.pair (.int .i64) (.pair (.int .i64) (.pair .str .unit)))))] true (.pair .str (.pair (.int .i64) (.pair (.int .i64) (.pair .str .unit))))).getD .bot
noncomputable def e_laws_toRecord : Ent := ⟨55, [(.vw, (.pair .str (.pair (.int .i64) (.pair (.int .i64) (.pair .str .unit)))))], true, (.pair .str (.pair (.int .i64) (.pair (.int .i64) (.pair .str .unit)))), runPE [] p_laws_toRecord⟩
theorem ok_laws_toRecord : e_laws_toRecord.Ok Tryz.prog := Ent.ok_of (pe := p_laws_toRecord) (fn := Tryz.f55) (hs := h_laws_toRecord) envC ok_nil Tryz.func55 (by decide +kernel) (some_getD (d := PE.bot) (by kernel_rfl)) rfl

/-- loop.example/g00300/laws.toRecordS -/
def h_laws_toRecordS : List (Nat × Hint) := [(58, .loop ⟨[0], [(3, 0, (.lst true (.pair .str (.pair (.int .i64) (.pair (.int .i64) (.pair .str .unit)))))), (4, 0, (.int .i64))]⟩ [(2, ⟨[], [(3, 0, (.lst true (.pair .str (.pair (.int .i64) (.pair (.int .i64) (.pair .str .unit))))))]⟩)]), (0, .frz [2])]
noncomputable def p_laws_toRecordS : PE := (comp tysC [e_laws_toRecord] h_laws_toRecordS Tryz.f42 [(.vw, (.lst false (.pair .str (.pair (.int .i64) (.pair (.int .i64) (.pair .str .unit))))))] true (.lst true (.pair .str (.pair (.int .i64) (.pair (.int .i64) (.pair .str .unit)))))).getD .bot
noncomputable def e_laws_toRecordS : Ent := ⟨42, [(.vw, (.lst false (.pair .str (.pair (.int .i64) (.pair (.int .i64) (.pair .str .unit))))))], true, (.lst true (.pair .str (.pair (.int .i64) (.pair (.int .i64) (.pair .str .unit))))), runPE [e_laws_toRecord] p_laws_toRecordS⟩
theorem ok_laws_toRecordS : e_laws_toRecordS.Ok Tryz.prog := Ent.ok_of (pe := p_laws_toRecordS) (fn := Tryz.f42) (hs := h_laws_toRecordS) envC (ok_cons ok_laws_toRecord ok_nil) Tryz.func42 (by decide +kernel) (some_getD (d := PE.bot) (by kernel_rfl)) rfl

/-- loop.example/g00300/laws.toZone -/
def h_laws_toZone : List (Nat × Hint) := []
noncomputable def p_laws_toZone : PE := (comp tysC [e_laws_toRecordS] h_laws_toZone Tryz.f28 [(.vw, (.pair .str (.pair (.int .i64) (.pair (.lst false (.pair .str (.pair (.int .i64) (.pair (.int .i64) (.pair .str .unit))))) .unit))))] true (.pair .str (.pair (.int .i64) (.pair (.lst true (.pair .str (.pair (.int .i64) (.pair (.int .i64) (.pair .str .unit))))) .unit)))).getD .bot
noncomputable def e_laws_toZone : Ent := ⟨28, [(.vw, (.pair .str (.pair (.int .i64) (.pair (.lst false (.pair .str (.pair (.int .i64) (.pair (.int .i64) (.pair .str .unit))))) .unit))))], true, (.pair .str (.pair (.int .i64) (.pair (.lst true (.pair .str (.pair (.int .i64) (.pair (.int .i64) (.pair .str .unit))))) .unit))), runPE [e_laws_toRecordS] p_laws_toZone⟩
theorem ok_laws_toZone : e_laws_toZone.Ok Tryz.prog := Ent.ok_of (pe := p_laws_toZone) (fn := Tryz.f28) (hs := h_laws_toZone) envC (ok_cons ok_laws_toRecordS ok_nil) Tryz.func28 (by decide +kernel) (some_getD (d := PE.bot) (by kernel_rfl)) rfl

/-- loop.example/g00300/laws.toDone -/
def h_laws_toDone : List (Nat × Hint) := []
noncomputable def p_laws_toDone : PE := (comp tysC [] h_laws_toDone Tryz.f43 [(.vw, (.pair (.int .i64) (.pair (.int .i64) (.pair (.int .i64) (.pair (.int .i64) .unit)))))] true (.pair (.int .i64) (.pair (.int .i64) (.pair (.int .i64) (.pair (.int .i64) .unit))))).getD .bot
noncomputable def e_laws_toDone : Ent := ⟨43, [(.vw, (.pair (.int .i64) (.pair (.int .i64) (.pair (.int .i64) (.pair (.int .i64) .unit)))))], true, (.pair (.int .i64) (.pair (.int .i64) (.pair (.int .i64) (.pair (.int .i64) .unit)))), runPE [] p_laws_toDone⟩
theorem ok_laws_toDone : e_laws_toDone.Ok Tryz.prog := Ent.ok_of (pe := p_laws_toDone) (fn := Tryz.f43) (hs := h_laws_toDone) envC ok_nil Tryz.func43 (by decide +kernel) (some_getD (d := PE.bot) (by kernel_rfl)) rfl

/-- loop.example/g00300/laws.toDoneS -/
def h_laws_toDoneS : List (Nat × Hint) := [(58, .loop ⟨[0], [(3, 0, (.lst true (.pair (.int .i64) (.pair (.int .i64) (.pair (.int .i64) (.pair (.int .i64) .unit)))))), (4, 0, (.int .i64))]⟩ [(2, ⟨[], [(3, 0, (.lst true (.pair (.int .i64) (.pair (.int .i64) (.pair (.int .i64) (.pair (.int .i64) .unit))))))]⟩)]), (0, .frz [2])]
noncomputable def p_laws_toDoneS : PE := (comp tysC [e_laws_toDone] h_laws_toDoneS Tryz.f29 [(.vw, (.lst false (.pair (.int .i64) (.pair (.int .i64) (.pair (.int .i64) (.pair (.int .i64) .unit))))))] true (.lst true (.pair (.int .i64) (.pair (.int .i64) (.pair (.int .i64) (.pair (.int .i64) .unit)))))).getD .bot
noncomputable def e_laws_toDoneS : Ent := ⟨29, [(.vw, (.lst false (.pair (.int .i64) (.pair (.int .i64) (.pair (.int .i64) (.pair (.int .i64) .unit))))))], true, (.lst true (.pair (.int .i64) (.pair (.int .i64) (.pair (.int .i64) (.pair (.int .i64) .unit))))), runPE [e_laws_toDone] p_laws_toDoneS⟩
theorem ok_laws_toDoneS : e_laws_toDoneS.Ok Tryz.prog := Ent.ok_of (pe := p_laws_toDoneS) (fn := Tryz.f29) (hs := h_laws_toDoneS) envC (ok_cons ok_laws_toDone ok_nil) Tryz.func29 (by decide +kernel) (some_getD (d := PE.bot) (by kernel_rfl)) rfl

/-- loop.example/g00300/laws.toControl -/
def h_laws_toControl : List (Nat × Hint) := []
noncomputable def p_laws_toControl : PE := (comp tysC [e_laws_toZone, e_laws_toDoneS] h_laws_toControl Tryz.f12 [(.vw, (.pair (.pair .str (.pair (.int .i64) (.pair (.lst false (.pair .str (.pair (.int .i64) (.pair (.int .i64) (.pair .str .unit))))) .unit))) (.pair (.lst false (.pair (.int .i64) (.pair (.int .i64) (.pair (.int .i64) (.pair (.int .i64) .unit))))) (.pair (.int .i64) .unit))))] true (.pair (.pair .str (.pair (.int .i64) (.pair (.lst true (.pair .str (.pair (.int .i64) (.pair (.int .i64) (.pair .str .unit))))) .unit))) (.pair (.lst true (.pair (.int .i64) (.pair (.int .i64) (.pair (.int .i64) (.pair (.int .i64) .unit))))) (.pair (.int .i64) .unit)))).getD .bot
noncomputable def e_laws_toControl : Ent := ⟨12, [(.vw, (.pair (.pair .str (.pair (.int .i64) (.pair (.lst false (.pair .str (.pair (.int .i64) (.pair (.int .i64) (.pair .str .unit))))) .unit))) (.pair (.lst false (.pair (.int .i64) (.pair (.int .i64) (.pair (.int .i64) (.pair (.int .i64) .unit))))) (.pair (.int .i64) .unit))))], true, (.pair (.pair .str (.pair (.int .i64) (.pair (.lst true (.pair .str (.pair (.int .i64) (.pair (.int .i64) (.pair .str .unit))))) .unit))) (.pair (.lst true (.pair (.int .i64) (.pair (.int .i64) (.pair (.int .i64) (.pair (.int .i64) .unit))))) (.pair (.int .i64) .unit))), runPE [e_laws_toZone, e_laws_toDoneS] p_laws_toControl⟩
theorem ok_laws_toControl : e_laws_toControl.Ok Tryz.prog := Ent.ok_of (pe := p_laws_toControl) (fn := Tryz.f12) (hs := h_laws_toControl) envC (ok_cons ok_laws_toZone (ok_cons ok_laws_toDoneS ok_nil)) Tryz.func12 (by decide +kernel) (some_getD (d := PE.bot) (by kernel_rfl)) rfl

/-- loop.example/g00300/spec.l16Who -/
def h_spec_l16Who : List (Nat × Hint) := [(3, .join [(0, ⟨[], [(4, 0, .bool)]⟩)])]
noncomputable def p_spec_l16Who : PE := (comp tysC [e_spec_l1In] h_spec_l16Who Tryz.f24 [(.vw, (.int .i64)), (.vw, (.int .i64))] true .bool).getD .bot
noncomputable def e_spec_l16Who : Ent := ⟨24, [(.vw, (.int .i64)), (.vw, (.int .i64))], true, .bool, runPE [e_spec_l1In] p_spec_l16Who⟩
theorem ok_spec_l16Who : e_spec_l16Who.Ok Tryz.prog := Ent.ok_of (pe := p_spec_l16Who) (fn := Tryz.f24) (hs := h_spec_l16Who) envC (ok_cons ok_spec_l1In ok_nil) Tryz.func24 (by decide +kernel) (some_getD (d := PE.bot) (by kernel_rfl)) rfl

/-- loop.example/g00300/spec.l5Serial -/
def h_spec_l5Serial : List (Nat × Hint) := []
noncomputable def p_spec_l5Serial : PE := (comp tysC [e_spec_l1In] h_spec_l5Serial Tryz.f26 [(.vw, (.int .i64))] true .bool).getD .bot
noncomputable def e_spec_l5Serial : Ent := ⟨26, [(.vw, (.int .i64))], true, .bool, runPE [e_spec_l1In] p_spec_l5Serial⟩
theorem ok_spec_l5Serial : e_spec_l5Serial.Ok Tryz.prog := Ent.ok_of (pe := p_spec_l5Serial) (fn := Tryz.f26) (hs := h_spec_l5Serial) envC (ok_cons ok_spec_l1In ok_nil) Tryz.func26 (by decide +kernel) (some_getD (d := PE.bot) (by kernel_rfl)) rfl

/-- loop.example/g00300/spec.l1Int -/
def h_spec_l1Int : List (Nat × Hint) := [(122, .loop ⟨[0], [(3, 0, (.int .i64)), (4, 0, (.int .i64))]⟩ [(1, ⟨[], [(2, 0, (.int .i64))]⟩), (2, ⟨[], [(3, 0, (.int .i64))]⟩)]), (3912, .join [(0, ⟨[0, 3, 4], [(34, 0, .bool)]⟩)]), (6, .join [(0, ⟨[0], [(18, 0, .bool)]⟩)])]
noncomputable def p_spec_l1Int : PE := (comp tysC [e_spec_l1In] h_spec_l1Int Tryz.f86 [(.vw, .str)] true (.int .i64)).getD .bot
noncomputable def e_spec_l1Int : Ent := ⟨86, [(.vw, .str)], true, (.int .i64), runPE [e_spec_l1In] p_spec_l1Int⟩
theorem ok_spec_l1Int : e_spec_l1Int.Ok Tryz.prog := Ent.ok_of (pe := p_spec_l1Int) (fn := Tryz.f86) (hs := h_spec_l1Int) envC (ok_cons ok_spec_l1In ok_nil) Tryz.func86 (by decide +kernel) (some_getD (d := PE.bot) (by kernel_rfl)) rfl

/-- loop.example/g00300/spec.l3Number -/
def h_spec_l3Number : List (Nat × Hint) := [(58, .loop ⟨[], [(0, 0, (.int .i64)), (5, 0, (.lst true (.int .u8))), (6, 0, (.int .i64))]⟩ [(2, ⟨[], [(5, 0, (.lst true (.int .u8)))]⟩)])]
noncomputable def p_spec_l3Number : PE := (comp tysC [] h_spec_l3Number Tryz.f87 [(.vw, (.int .i64)), (.vw, (.int .i64))] true .str).getD .bot
noncomputable def e_spec_l3Number : Ent := ⟨87, [(.vw, (.int .i64)), (.vw, (.int .i64))], true, .str, runPE [] p_spec_l3Number⟩
theorem ok_spec_l3Number : e_spec_l3Number.Ok Tryz.prog := Ent.ok_of (pe := p_spec_l3Number) (fn := Tryz.f87) (hs := h_spec_l3Number) envC ok_nil Tryz.func87 (by decide +kernel) (some_getD (d := PE.bot) (by kernel_rfl)) rfl

/-- loop.example/g00300/spec.l3Target -/
def h_spec_l3Target : List (Nat × Hint) := [(15, .join [(0, ⟨[], [(2, 0, .bool)]⟩)]), (58, .loop ⟨[0, 3, 12, 13], [(4, 0, .bool), (14, 0, (.int .i64))]⟩ [(2, ⟨[0], [(4, 0, .bool)]⟩)]), (467, .join [(0, ⟨[0, 3, 12, 13, 14], [(4, 0, .bool)]⟩)])]
noncomputable def p_spec_l3Target : PE := (comp tysC [e_spec_l1Labels] h_spec_l3Target Tryz.f88 [(.vw, .str)] true .bool).getD .bot
noncomputable def e_spec_l3Target : Ent := ⟨88, [(.vw, .str)], true, .bool, runPE [e_spec_l1Labels] p_spec_l3Target⟩
theorem ok_spec_l3Target : e_spec_l3Target.Ok Tryz.prog := Ent.ok_of (pe := p_spec_l3Target) (fn := Tryz.f88) (hs := h_spec_l3Target) envC (ok_cons ok_spec_l1Labels ok_nil) Tryz.func88 (by decide +kernel) (some_getD (d := PE.bot) (by kernel_rfl)) rfl

/-- loop.example/g00300/spec.l2Bytes -/
def h_spec_l2Bytes : List (Nat × Hint) := [(122, .loop ⟨[3, 13, 14], [(5, 0, .str), (15, 0, (.int .i64))]⟩ [(2, ⟨[], [(5, 0, .str)]⟩)])]
noncomputable def p_spec_l2Bytes : PE := (comp tysC [e_spec_l1Labels] h_spec_l2Bytes Tryz.f89 [(.vw, .str)] true .str).getD .bot
noncomputable def e_spec_l2Bytes : Ent := ⟨89, [(.vw, .str)], true, .str, runPE [e_spec_l1Labels] p_spec_l2Bytes⟩
theorem ok_spec_l2Bytes : e_spec_l2Bytes.Ok Tryz.prog := Ent.ok_of (pe := p_spec_l2Bytes) (fn := Tryz.f89) (hs := h_spec_l2Bytes) envC (ok_cons ok_spec_l1Labels ok_nil) Tryz.func89 (by decide +kernel) (some_getD (d := PE.bot) (by kernel_rfl)) rfl

/-- loop.example/g00300/spec.l3Bytes -/
def h_spec_l3Bytes : List (Nat × Hint) := [(221170, .loop ⟨[1], [(13, 0, (.int .i64))]⟩ [(1, ⟨[], [(4, 0, .str), (5, 0, .bool)]⟩), (5, ⟨[1], []⟩)]), (3538724, .join [(0, ⟨[1, 13], [(104, 0, .bool)]⟩)]), (27642, .join [(0, ⟨[12], [(76, 0, .bool)]⟩)]), (107, .join [(0, ⟨[1, 14], [(39, 0, .bool)]⟩)]), (3418, .loop ⟨[7, 19, 20], [(6, 0, .str), (21, 0, (.int .i64))]⟩ [(1, ⟨[4, 5], []⟩), (3, ⟨[7], [(6, 0, .str)]⟩)])]
noncomputable def p_spec_l3Bytes : PE := (comp tysC [e_spec_l1Split, e_spec_l1Int, e_spec_l1In, e_spec_l3Number, e_spec_l3Target, e_spec_l2Bytes] h_spec_l3Bytes Tryz.f75 [(.vw, (.int .i64)), (.vw, .str)] false (.pair .str (.pair .bool .unit))).getD .bot
noncomputable def e_spec_l3Bytes : Ent := ⟨75, [(.vw, (.int .i64)), (.vw, .str)], false, (.pair .str (.pair .bool .unit)), runPE [e_spec_l1Split, e_spec_l1Int, e_spec_l1In, e_spec_l3Number, e_spec_l3Target, e_spec_l2Bytes] p_spec_l3Bytes⟩
theorem ok_spec_l3Bytes : e_spec_l3Bytes.Ok Tryz.prog := Ent.ok_of (pe := p_spec_l3Bytes) (fn := Tryz.f75) (hs := h_spec_l3Bytes) envC (ok_cons ok_spec_l1Split (ok_cons ok_spec_l1Int (ok_cons ok_spec_l1In (ok_cons ok_spec_l3Number (ok_cons ok_spec_l3Target (ok_cons ok_spec_l2Bytes ok_nil)))))) Tryz.func75 (by decide +kernel) (some_getD (d := PE.bot) (by kernel_rfl)) rfl

/-- loop.example/g00300/spec.GoodName -/
def h_spec_GoodName : List (Nat × Hint) := []
noncomputable def p_spec_GoodName : PE := (comp tysC [e_spec_l1Labels] h_spec_GoodName Tryz.f76 [(.vw, .str)] true .bool).getD .bot
noncomputable def e_spec_GoodName : Ent := ⟨76, [(.vw, .str)], true, .bool, runPE [e_spec_l1Labels] p_spec_GoodName⟩
theorem ok_spec_GoodName : e_spec_GoodName.Ok Tryz.prog := Ent.ok_of (pe := p_spec_GoodName) (fn := Tryz.f76) (hs := h_spec_GoodName) envC (ok_cons ok_spec_l1Labels ok_nil) Tryz.func76 (by decide +kernel) (some_getD (d := PE.bot) (by kernel_rfl)) rfl

/-- loop.example/g00300/spec.GoodRecord -/
def h_spec_GoodRecord : List (Nat × Hint) := [(7, .join [(0, ⟨[], [(2, 0, .bool)]⟩)])]
noncomputable def p_spec_GoodRecord : PE := (comp tysC [e_spec_l3Bytes, e_spec_GoodName, e_spec_l1In] h_spec_GoodRecord Tryz.f63 [(.vw, (.pair .str (.pair (.int .i64) (.pair (.int .i64) (.pair .str .unit)))))] true .bool).getD .bot
noncomputable def e_spec_GoodRecord : Ent := ⟨63, [(.vw, (.pair .str (.pair (.int .i64) (.pair (.int .i64) (.pair .str .unit)))))], true, .bool, runPE [e_spec_l3Bytes, e_spec_GoodName, e_spec_l1In] p_spec_GoodRecord⟩
theorem ok_spec_GoodRecord : e_spec_GoodRecord.Ok Tryz.prog := Ent.ok_of (pe := p_spec_GoodRecord) (fn := Tryz.f63) (hs := h_spec_GoodRecord) envC (ok_cons ok_spec_l3Bytes (ok_cons ok_spec_GoodName (ok_cons ok_spec_l1In ok_nil))) Tryz.func63 (by decide +kernel) (some_getD (d := PE.bot) (by kernel_rfl)) rfl

/-- loop.example/g00300/spec.l1Compare -/
def h_spec_l1Compare : List (Nat × Hint) := [(122, .loop ⟨[5, 7], [(9, 0, (.int .i64))]⟩ [(1, ⟨[], [(4, 0, (.int .i64))]⟩), (2, ⟨[5, 7], []⟩)]), (488, .join [(0, ⟨[5, 7, 9], [(31, 0, .bool)]⟩)])]
noncomputable def p_spec_l1Compare : PE := (comp tysC [e_spec_l1Labels] h_spec_l1Compare Tryz.f77 [(.vw, .str), (.vw, .str)] true (.int .i64)).getD .bot
noncomputable def e_spec_l1Compare : Ent := ⟨77, [(.vw, .str), (.vw, .str)], true, (.int .i64), runPE [e_spec_l1Labels] p_spec_l1Compare⟩
theorem ok_spec_l1Compare : e_spec_l1Compare.Ok Tryz.prog := Ent.ok_of (pe := p_spec_l1Compare) (fn := Tryz.f77) (hs := h_spec_l1Compare) envC (ok_cons ok_spec_l1Labels ok_nil) Tryz.func77 (by decide +kernel) (some_getD (d := PE.bot) (by kernel_rfl)) rfl

/-- loop.example/g00300/spec.l3Less -/
def h_spec_l3Less : List (Nat × Hint) := []
noncomputable def p_spec_l3Less : PE := (comp tysC [] h_spec_l3Less Tryz.f78 [(.vw, .bool)] true (.int .i64)).getD .bot
noncomputable def e_spec_l3Less : Ent := ⟨78, [(.vw, .bool)], true, (.int .i64), runPE [] p_spec_l3Less⟩
theorem ok_spec_l3Less : e_spec_l3Less.Ok Tryz.prog := Ent.ok_of (pe := p_spec_l3Less) (fn := Tryz.f78) (hs := h_spec_l3Less) envC ok_nil Tryz.func78 (by decide +kernel) (some_getD (d := PE.bot) (by kernel_rfl)) rfl

/-- loop.example/g00300/spec.l3Compare -/
def h_spec_l3Compare : List (Nat × Hint) := []
noncomputable def p_spec_l3Compare : PE := (comp tysC [e_spec_l1Compare, e_spec_l3Bytes, e_spec_l3Less] h_spec_l3Compare Tryz.f64 [(.vw, (.pair .str (.pair (.int .i64) (.pair (.int .i64) (.pair .str .unit))))), (.vw, (.pair .str (.pair (.int .i64) (.pair (.int .i64) (.pair .str .unit)))))] true (.int .i64)).getD .bot
noncomputable def e_spec_l3Compare : Ent := ⟨64, [(.vw, (.pair .str (.pair (.int .i64) (.pair (.int .i64) (.pair .str .unit))))), (.vw, (.pair .str (.pair (.int .i64) (.pair (.int .i64) (.pair .str .unit)))))], true, (.int .i64), runPE [e_spec_l1Compare, e_spec_l3Bytes, e_spec_l3Less] p_spec_l3Compare⟩
theorem ok_spec_l3Compare : e_spec_l3Compare.Ok Tryz.prog := Ent.ok_of (pe := p_spec_l3Compare) (fn := Tryz.f64) (hs := h_spec_l3Compare) envC (ok_cons ok_spec_l1Compare (ok_cons ok_spec_l3Bytes (ok_cons ok_spec_l3Less ok_nil))) Tryz.func64 (by decide +kernel) (some_getD (d := PE.bot) (by kernel_rfl)) rfl

/-- loop.example/g00300/spec.l6List -/
def h_spec_l6List : List (Nat × Hint) := [(26, .loop ⟨[0, 5, 6], [(7, 0, (.int .i64))]⟩ [(1, ⟨[2], []⟩), (2, ⟨[0], []⟩)]), (1689, .join [(0, ⟨[0, 5, 6, 7], [(28, 0, .bool)]⟩)])]
noncomputable def p_spec_l6List : PE := (comp tysC [e_spec_GoodRecord, e_spec_l3Compare] h_spec_l6List Tryz.f52 [(.vw, (.lst false (.pair .str (.pair (.int .i64) (.pair (.int .i64) (.pair .str .unit))))))] true .bool).getD .bot
noncomputable def e_spec_l6List : Ent := ⟨52, [(.vw, (.lst false (.pair .str (.pair (.int .i64) (.pair (.int .i64) (.pair .str .unit))))))], true, .bool, runPE [e_spec_GoodRecord, e_spec_l3Compare] p_spec_l6List⟩
theorem ok_spec_l6List : e_spec_l6List.Ok Tryz.prog := Ent.ok_of (pe := p_spec_l6List) (fn := Tryz.f52) (hs := h_spec_l6List) envC (ok_cons ok_spec_GoodRecord (ok_cons ok_spec_l3Compare ok_nil)) Tryz.func52 (by decide +kernel) (some_getD (d := PE.bot) (by kernel_rfl)) rfl

/-- loop.example/g00300/spec.l1Below -/
def h_spec_l1Below : List (Nat × Hint) := [(7, .join [(0, ⟨[], [(4, 0, .bool)]⟩)])]
noncomputable def p_spec_l1Below : PE := (comp tysC [] h_spec_l1Below Tryz.f65 [(.vw, .str), (.vw, .str)] true .bool).getD .bot
noncomputable def e_spec_l1Below : Ent := ⟨65, [(.vw, .str), (.vw, .str)], true, .bool, runPE [] p_spec_l1Below⟩
theorem ok_spec_l1Below : e_spec_l1Below.Ok Tryz.prog := Ent.ok_of (pe := p_spec_l1Below) (fn := Tryz.f65) (hs := h_spec_l1Below) envC ok_nil Tryz.func65 (by decide +kernel) (some_getD (d := PE.bot) (by kernel_rfl)) rfl

/-- loop.example/g00300/spec.l6Has -/
def h_spec_l6Has : List (Nat × Hint) := [(26, .loop ⟨[1, 2, 9, 10], [(11, 0, (.int .i64))]⟩ [(1, ⟨[], [(6, 0, .bool)]⟩), (2, ⟨[], []⟩)]), (1689, .join [(0, ⟨[1, 2, 9, 10, 11], [(24, 0, .bool)]⟩)])]
noncomputable def p_spec_l6Has : PE := (comp tysC [] h_spec_l6Has Tryz.f66 [(.vw, (.lst false (.pair .str (.pair (.int .i64) (.pair (.int .i64) (.pair .str .unit)))))), (.vw, .str), (.vw, (.int .i64))] true .bool).getD .bot
noncomputable def e_spec_l6Has : Ent := ⟨66, [(.vw, (.lst false (.pair .str (.pair (.int .i64) (.pair (.int .i64) (.pair .str .unit)))))), (.vw, .str), (.vw, (.int .i64))], true, .bool, runPE [] p_spec_l6Has⟩
theorem ok_spec_l6Has : e_spec_l6Has.Ok Tryz.prog := Ent.ok_of (pe := p_spec_l6Has) (fn := Tryz.f66) (hs := h_spec_l6Has) envC ok_nil Tryz.func66 (by decide +kernel) (some_getD (d := PE.bot) (by kernel_rfl)) rfl

/-- loop.example/g00300/spec.l1Parent -/
def h_spec_l1Parent : List (Nat × Hint) := [(26, .loop ⟨[0], [(3, 0, (.int .i64))]⟩ [(1, ⟨[], [(2, 0, .str)]⟩), (2, ⟨[], []⟩)])]
noncomputable def p_spec_l1Parent : PE := (comp tysC [] h_spec_l1Parent Tryz.f79 [(.vw, .str)] true .str).getD .bot
noncomputable def e_spec_l1Parent : Ent := ⟨79, [(.vw, .str)], true, .str, runPE [] p_spec_l1Parent⟩
theorem ok_spec_l1Parent : e_spec_l1Parent.Ok Tryz.prog := Ent.ok_of (pe := p_spec_l1Parent) (fn := Tryz.f79) (hs := h_spec_l1Parent) envC ok_nil Tryz.func79 (by decide +kernel) (some_getD (d := PE.bot) (by kernel_rfl)) rfl

/-- loop.example/g00300/spec.l6Cut -/
def h_spec_l6Cut : List (Nat × Hint) := [(60, .loop ⟨[0, 1], [(2, 0, .str), (8, 0, .str), (9, 0, .bool)]⟩ [(2, ⟨[], [(8, 0, .str), (9, 0, .bool)]⟩)]), (482, .join [(0, ⟨[0, 1, 2], [(8, 0, .str), (9, 0, .bool)]⟩)]), (240, .join [(0, ⟨[0, 1, 2, 8, 9], [(17, 0, .bool)]⟩)])]
noncomputable def p_spec_l6Cut : PE := (comp tysC [e_spec_l1Below, e_spec_l6Has, e_spec_l1Parent] h_spec_l6Cut Tryz.f67 [(.vw, .str), (.vw, (.lst false (.pair .str (.pair (.int .i64) (.pair (.int .i64) (.pair .str .unit)))))), (.vw, .str)] false (.pair .str (.pair .bool .unit))).getD .bot
noncomputable def e_spec_l6Cut : Ent := ⟨67, [(.vw, .str), (.vw, (.lst false (.pair .str (.pair (.int .i64) (.pair (.int .i64) (.pair .str .unit)))))), (.vw, .str)], false, (.pair .str (.pair .bool .unit)), runPE [e_spec_l1Below, e_spec_l6Has, e_spec_l1Parent] p_spec_l6Cut⟩
theorem ok_spec_l6Cut : e_spec_l6Cut.Ok Tryz.prog := Ent.ok_of (pe := p_spec_l6Cut) (fn := Tryz.f67) (hs := h_spec_l6Cut) envC (ok_cons ok_spec_l1Below (ok_cons ok_spec_l6Has (ok_cons ok_spec_l1Parent ok_nil))) Tryz.func67 (by decide +kernel) (some_getD (d := PE.bot) (by kernel_rfl)) rfl

end Go.Proofs.YtlflhlgppbbahaaGreatDoor
