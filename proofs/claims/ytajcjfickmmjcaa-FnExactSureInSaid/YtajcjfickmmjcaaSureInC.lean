/- The functions that the law reaches, each as a program of expressions. -/
import Derived.Test.YtajcjfickmmjcaaOwZ12
import Derived.Test.YtajcjfickmmjcaaProg
import Derived.KernelRfl
set_option linter.unusedVariables false
set_option linter.unusedSimpArgs false
namespace Go.Proofs.Ytajcjfickmmjcaa
open Go Go.Own
def tysC : List (TypeId × T × Nat) := [(3, (.int .i64), 0), (4, .bool, 0), (5, (.int .u8), 0), (9, .str, 0), (22, (.lst true (.pair (.lst true .str) (.pair (.int .i64) (.pair (.int .i64) .unit)))), 40), (24, (.pair (.lst true (.pair (.lst true .str) (.pair (.int .i64) (.pair (.int .i64) .unit)))) .unit), 0), (30, (.lst true (.pair (.lst true .str) (.pair (.int .i64) (.pair (.int .i64) .unit)))), 40), (32, (.pair (.lst true (.pair (.lst true .str) (.pair (.int .i64) (.pair (.int .i64) .unit)))) .unit), 0), (37, (.lst true .str), 16), (42, (.lst true (.int .u8)), 1), (47, (.pair (.lst true .str) (.pair (.int .i64) (.pair (.int .i64) .unit))), 0), (94, (.pair (.lst true .str) (.pair (.int .i64) (.pair (.int .i64) .unit))), 0)]
theorem envC : ∀ sig n fx, EnvOk Try.prog ⟨tyOf tysC, ebOf tysC, sig, n, fx⟩ := by
  refine EnvOk.ofL (fun sig n fx t ht => ?_) (by kernel_rfl)
  simp only [tysC, List.map_cons, List.map_nil, List.mem_cons] at ht
  rcases ht with rfl | ht
  · exact ⟨Try.underlying3, rfl, by kernel_rfl⟩
  rcases ht with rfl | ht
  · exact ⟨Try.underlying4, rfl, by kernel_rfl⟩
  rcases ht with rfl | ht
  · exact ⟨Try.underlying5, rfl, by kernel_rfl⟩
  rcases ht with rfl | ht
  · exact ⟨Try.underlying9, rfl, by kernel_rfl⟩
  rcases ht with rfl | ht
  · exact ⟨⟨rfl, _, Try.underlying22, rfl, rfl, by kernel_rfl⟩, rfl, by kernel_rfl⟩
  rcases ht with rfl | ht
  · exact ⟨⟨_, Try.underlying24, rfl, rfl, rfl, trivial⟩, rfl, by kernel_rfl⟩
  rcases ht with rfl | ht
  · exact ⟨⟨rfl, _, Try.underlying30, rfl, rfl, by kernel_rfl⟩, rfl, by kernel_rfl⟩
  rcases ht with rfl | ht
  · exact ⟨⟨_, Try.underlying32, rfl, rfl, rfl, trivial⟩, rfl, by kernel_rfl⟩
  rcases ht with rfl | ht
  · exact ⟨⟨rfl, _, Try.underlying37, rfl, rfl, by kernel_rfl⟩, rfl, by kernel_rfl⟩
  rcases ht with rfl | ht
  · exact ⟨⟨rfl, _, Try.underlying42, rfl, rfl, by kernel_rfl⟩, rfl, by kernel_rfl⟩
  rcases ht with rfl | ht
  · exact ⟨⟨_, Try.underlying47, rfl, rfl, rfl, rfl, rfl, rfl, rfl, rfl, rfl, trivial⟩, rfl, by kernel_rfl⟩
  rcases ht with rfl | ht
  · exact ⟨⟨_, Try.underlying94, rfl, rfl, rfl, rfl, rfl, rfl, rfl, rfl, rfl, trivial⟩, rfl, by kernel_rfl⟩
  cases ht

/-- loop.example/g00300/spec.l1In -/
def h49 : List (Nat × Hint) := [(3, .join [(0, ⟨[], [(6, 0, .bool)]⟩)])]
noncomputable def p49 : PE := (comp tysC [] h49 Try.f49 [(.vw, (.int .i64)), (.vw, (.int .i64)), (.vw, (.int .i64))] true .bool).getD .bot
noncomputable def e49 : Ent := ⟨49, [(.vw, (.int .i64)), (.vw, (.int .i64)), (.vw, (.int .i64))], true, .bool, runPE [] p49⟩
theorem ok49 : e49.Ok Try.prog := Ent.ok_of (pe := p49) (fn := Try.f49) (hs := h49) envC ok_nil Try.func49 (by decide +kernel) (some_getD (d := PE.bot) (by kernel_rfl)) rfl

/-- loop.example/g00300/impl.within -/
def h50 : List (Nat × Hint) := [(3, .join [(0, ⟨[], [(6, 0, .bool)]⟩)])]
noncomputable def p50 : PE := (comp tysC [] h50 Try.f50 [(.vw, (.int .i64)), (.vw, (.int .i64)), (.vw, (.int .i64))] true .bool).getD .bot
noncomputable def e50 : Ent := ⟨50, [(.vw, (.int .i64)), (.vw, (.int .i64)), (.vw, (.int .i64))], true, .bool, runPE [] p50⟩
theorem ok50 : e50.Ok Try.prog := Ent.ok_of (pe := p50) (fn := Try.f50) (hs := h50) envC ok_nil Try.func50 (by decide +kernel) (some_getD (d := PE.bot) (by kernel_rfl)) rfl

/-- loop.example/g00300/spec.NewChain -/
def h12 : List (Nat × Hint) := []
noncomputable def p12 : PE := (comp tysC [e49] h12 Try.f12 [(.vw, (.int .i64))] false (.pair (.pair (.lst true (.pair (.lst true .str) (.pair (.int .i64) (.pair (.int .i64) .unit)))) .unit) (.pair .bool .unit))).getD .bot
noncomputable def e12 : Ent := ⟨12, [(.vw, (.int .i64))], false, (.pair (.pair (.lst true (.pair (.lst true .str) (.pair (.int .i64) (.pair (.int .i64) .unit)))) .unit) (.pair .bool .unit)), runPE [e49] p12⟩
theorem ok12 : e12.Ok Try.prog := Ent.ok_of (pe := p12) (fn := Try.f12) (hs := h12) envC (ok_cons ok49 ok_nil) Try.func12 (by decide +kernel) (some_getD (d := PE.bot) (by kernel_rfl)) rfl

/-- loop.example/g00300/impl.NewChain -/
def h13 : List (Nat × Hint) := []
noncomputable def p13 : PE := (comp tysC [e50] h13 Try.f13 [(.vw, (.int .i64))] false (.pair (.pair (.lst true (.pair (.lst true .str) (.pair (.int .i64) (.pair (.int .i64) .unit)))) .unit) (.pair .bool .unit))).getD .bot
noncomputable def e13 : Ent := ⟨13, [(.vw, (.int .i64))], false, (.pair (.pair (.lst true (.pair (.lst true .str) (.pair (.int .i64) (.pair (.int .i64) .unit)))) .unit) (.pair .bool .unit)), runPE [e50] p13⟩
theorem ok13 : e13.Ok Try.prog := Ent.ok_of (pe := p13) (fn := Try.f13) (hs := h13) envC (ok_cons ok50 ok_nil) Try.func13 (by decide +kernel) (some_getD (d := PE.bot) (by kernel_rfl)) rfl

/-- loop.example/g00300/laws.eqStringS -/
def h23 : List (Nat × Hint) := [(58, .loop ⟨[0, 1], [(5, 0, (.int .i64))]⟩ [(1, ⟨[4], []⟩), (2, ⟨[], []⟩)])]
noncomputable def p23 : PE := (comp tysC [] h23 Try.f23 [(.vw, (.lst false .str)), (.vw, (.lst false .str))] true .bool).getD .bot
noncomputable def e23 : Ent := ⟨23, [(.vw, (.lst false .str)), (.vw, (.lst false .str))], true, .bool, runPE [] p23⟩
theorem ok23 : e23.Ok Try.prog := Ent.ok_of (pe := p23) (fn := Try.f23) (hs := h23) envC ok_nil Try.func23 (by decide +kernel) (some_getD (d := PE.bot) (by kernel_rfl)) rfl

/-- loop.example/g00300/laws.eqLink -/
def h72 : List (Nat × Hint) := []
noncomputable def p72 : PE := (comp tysC [e23] h72 Try.f72 [(.vw, (.pair (.lst false .str) (.pair (.int .i64) (.pair (.int .i64) .unit)))), (.vw, (.pair (.lst false .str) (.pair (.int .i64) (.pair (.int .i64) .unit))))] true .bool).getD .bot
noncomputable def e72 : Ent := ⟨72, [(.vw, (.pair (.lst false .str) (.pair (.int .i64) (.pair (.int .i64) .unit)))), (.vw, (.pair (.lst false .str) (.pair (.int .i64) (.pair (.int .i64) .unit))))], true, .bool, runPE [e23] p72⟩
theorem ok72 : e72.Ok Try.prog := Ent.ok_of (pe := p72) (fn := Try.f72) (hs := h72) envC (ok_cons ok23 ok_nil) Try.func72 (by decide +kernel) (some_getD (d := PE.bot) (by kernel_rfl)) rfl

/-- loop.example/g00300/laws.eqLinkS -/
def h51 : List (Nat × Hint) := [(58, .loop ⟨[0, 1], [(5, 0, (.int .i64))]⟩ [(1, ⟨[4], []⟩), (2, ⟨[], []⟩)])]
noncomputable def p51 : PE := (comp tysC [e72] h51 Try.f51 [(.vw, (.lst false (.pair (.lst false .str) (.pair (.int .i64) (.pair (.int .i64) .unit))))), (.vw, (.lst false (.pair (.lst false .str) (.pair (.int .i64) (.pair (.int .i64) .unit)))))] true .bool).getD .bot
noncomputable def e51 : Ent := ⟨51, [(.vw, (.lst false (.pair (.lst false .str) (.pair (.int .i64) (.pair (.int .i64) .unit))))), (.vw, (.lst false (.pair (.lst false .str) (.pair (.int .i64) (.pair (.int .i64) .unit)))))], true, .bool, runPE [e72] p51⟩
theorem ok51 : e51.Ok Try.prog := Ent.ok_of (pe := p51) (fn := Try.f51) (hs := h51) envC (ok_cons ok72 ok_nil) Try.func51 (by decide +kernel) (some_getD (d := PE.bot) (by kernel_rfl)) rfl

/-- loop.example/g00300/laws.eqChain -/
def h14 : List (Nat × Hint) := []
noncomputable def p14 : PE := (comp tysC [e51] h14 Try.f14 [(.vw, (.pair (.lst false (.pair (.lst false .str) (.pair (.int .i64) (.pair (.int .i64) .unit)))) .unit)), (.vw, (.pair (.lst false (.pair (.lst false .str) (.pair (.int .i64) (.pair (.int .i64) .unit)))) .unit))] true .bool).getD .bot
noncomputable def e14 : Ent := ⟨14, [(.vw, (.pair (.lst false (.pair (.lst false .str) (.pair (.int .i64) (.pair (.int .i64) .unit)))) .unit)), (.vw, (.pair (.lst false (.pair (.lst false .str) (.pair (.int .i64) (.pair (.int .i64) .unit)))) .unit))], true, .bool, runPE [e51] p14⟩
theorem ok14 : e14.Ok Try.prog := Ent.ok_of (pe := p14) (fn := Try.f14) (hs := h14) envC (ok_cons ok51 ok_nil) Try.func14 (by decide +kernel) (some_getD (d := PE.bot) (by kernel_rfl)) rfl

/-- loop.example/g00300/laws.markText -/
def h59 : List (Nat × Hint) := [(60, .loop ⟨[], [(0, 0, (.int .i64)), (3, 0, .str)]⟩ [(2, ⟨[], [(3, 0, .str)]⟩)])]
noncomputable def p59 : PE := (comp tysC [] h59 Try.f59 [(.vw, (.int .i64))] true .str).getD .bot
noncomputable def e59 : Ent := ⟨59, [(.vw, (.int .i64))], true, .str, runPE [] p59⟩
theorem ok59 : e59.Ok Try.prog := Ent.ok_of (pe := p59) (fn := Try.f59) (hs := h59) envC ok_nil Try.func59 (by decide +kernel) (some_getD (d := PE.bot) (by kernel_rfl)) rfl

/-- loop.example/g00300/laws.markStringS -/
def h24 : List (Nat × Hint) := [(26, .loop ⟨[], [(0, 0, (.lst true .str)), (1, 0, (.int .i64)), (5, 0, (.int .i64))]⟩ [(2, ⟨[], [(0, 0, (.lst true .str)), (1, 0, (.int .i64))]⟩)])]
noncomputable def p24 : PE := (comp tysC [e59] h24 Try.f24 [(.io, (.lst true .str)), (.vw, (.int .i64))] true (.int .i64)).getD .bot
noncomputable def e24 : Ent := ⟨24, [(.io, (.lst true .str)), (.vw, (.int .i64))], true, (.int .i64), runPE [e59] p24⟩
theorem ok24 : e24.Ok Try.prog := Ent.ok_of (pe := p24) (fn := Try.f24) (hs := h24) envC (ok_cons ok59 ok_nil) Try.func24 (by decide +kernel) (some_getD (d := PE.bot) (by kernel_rfl)) rfl

/-- loop.example/g00300/laws.szStringS -/
def h84 : List (Nat × Hint) := [(122, .loop ⟨[0], [(1, 0, (.int .i64)), (5, 0, (.int .i64))]⟩ [(1, ⟨[], [(4, 0, (.int .i64))]⟩), (2, ⟨[], [(1, 0, (.int .i64))]⟩)])]
noncomputable def p84 : PE := (comp tysC [] h84 Try.f84 [(.vw, (.lst false .str)), (.vw, (.int .i64))] true (.int .i64)).getD .bot
noncomputable def e84 : Ent := ⟨84, [(.vw, (.lst false .str)), (.vw, (.int .i64))], true, (.int .i64), runPE [] p84⟩
theorem ok84 : e84.Ok Try.prog := Ent.ok_of (pe := p84) (fn := Try.f84) (hs := h84) envC ok_nil Try.func84 (by decide +kernel) (some_getD (d := PE.bot) (by kernel_rfl)) rfl

/-- loop.example/g00300/laws.szLink -/
def h73 : List (Nat × Hint) := []
noncomputable def p73 : PE := (comp tysC [e84] h73 Try.f73 [(.vw, (.pair (.lst false .str) (.pair (.int .i64) (.pair (.int .i64) .unit)))), (.vw, (.int .i64))] true (.int .i64)).getD .bot
noncomputable def e73 : Ent := ⟨73, [(.vw, (.pair (.lst false .str) (.pair (.int .i64) (.pair (.int .i64) .unit)))), (.vw, (.int .i64))], true, (.int .i64), runPE [e84] p73⟩
theorem ok73 : e73.Ok Try.prog := Ent.ok_of (pe := p73) (fn := Try.f73) (hs := h73) envC (ok_cons ok84 ok_nil) Try.func73 (by decide +kernel) (some_getD (d := PE.bot) (by kernel_rfl)) rfl

/-- loop.example/g00300/laws.szLinkS -/
def h54 : List (Nat × Hint) := [(122, .loop ⟨[0], [(1, 0, (.int .i64)), (5, 0, (.int .i64))]⟩ [(1, ⟨[], [(4, 0, (.int .i64))]⟩), (2, ⟨[], [(1, 0, (.int .i64))]⟩)])]
noncomputable def p54 : PE := (comp tysC [e73] h54 Try.f54 [(.vw, (.lst false (.pair (.lst false .str) (.pair (.int .i64) (.pair (.int .i64) .unit))))), (.vw, (.int .i64))] true (.int .i64)).getD .bot
noncomputable def e54 : Ent := ⟨54, [(.vw, (.lst false (.pair (.lst false .str) (.pair (.int .i64) (.pair (.int .i64) .unit))))), (.vw, (.int .i64))], true, (.int .i64), runPE [e73] p54⟩
theorem ok54 : e54.Ok Try.prog := Ent.ok_of (pe := p54) (fn := Try.f54) (hs := h54) envC (ok_cons ok73 ok_nil) Try.func54 (by decide +kernel) (some_getD (d := PE.bot) (by kernel_rfl)) rfl

/-- loop.example/g00300/laws.szChain -/
def h17 : List (Nat × Hint) := []
noncomputable def p17 : PE := (comp tysC [e54] h17 Try.f17 [(.vw, (.pair (.lst false (.pair (.lst false .str) (.pair (.int .i64) (.pair (.int .i64) .unit)))) .unit)), (.vw, (.int .i64))] true (.int .i64)).getD .bot
noncomputable def e17 : Ent := ⟨17, [(.vw, (.pair (.lst false (.pair (.lst false .str) (.pair (.int .i64) (.pair (.int .i64) .unit)))) .unit)), (.vw, (.int .i64))], true, (.int .i64), runPE [e54] p17⟩
theorem ok17 : e17.Ok Try.prog := Ent.ok_of (pe := p17) (fn := Try.f17) (hs := h17) envC (ok_cons ok54 ok_nil) Try.func17 (by decide +kernel) (some_getD (d := PE.bot) (by kernel_rfl)) rfl

/-- loop.example/g00300/laws.toStringS -/
def h85 : List (Nat × Hint) := [(58, .loop ⟨[0], [(3, 0, (.lst true .str)), (4, 0, (.int .i64))]⟩ [(2, ⟨[], [(3, 0, (.lst true .str))]⟩)])]
noncomputable def p85 : PE := (comp tysC [] h85 Try.f85 [(.vw, (.lst false .str))] true (.lst true .str)).getD .bot
noncomputable def e85 : Ent := ⟨85, [(.vw, (.lst false .str))], true, (.lst true .str), runPE [] p85⟩
theorem ok85 : e85.Ok Try.prog := Ent.ok_of (pe := p85) (fn := Try.f85) (hs := h85) envC ok_nil Try.func85 (by decide +kernel) (some_getD (d := PE.bot) (by kernel_rfl)) rfl

/-- loop.example/g00300/laws.toLink -/
def h74 : List (Nat × Hint) := []
noncomputable def p74 : PE := (comp tysC [e85] h74 Try.f74 [(.vw, (.pair (.lst false .str) (.pair (.int .i64) (.pair (.int .i64) .unit))))] true (.pair (.lst true .str) (.pair (.int .i64) (.pair (.int .i64) .unit)))).getD .bot
noncomputable def e74 : Ent := ⟨74, [(.vw, (.pair (.lst false .str) (.pair (.int .i64) (.pair (.int .i64) .unit))))], true, (.pair (.lst true .str) (.pair (.int .i64) (.pair (.int .i64) .unit))), runPE [e85] p74⟩
theorem ok74 : e74.Ok Try.prog := Ent.ok_of (pe := p74) (fn := Try.f74) (hs := h74) envC (ok_cons ok85 ok_nil) Try.func74 (by decide +kernel) (some_getD (d := PE.bot) (by kernel_rfl)) rfl

/-- loop.example/g00300/laws.toLinkS -/
def h56 : List (Nat × Hint) := [(58, .loop ⟨[0], [(3, 0, (.lst true (.pair (.lst true .str) (.pair (.int .i64) (.pair (.int .i64) .unit))))), (4, 0, (.int .i64))]⟩ [(2, ⟨[], [(3, 0, (.lst true (.pair (.lst true .str) (.pair (.int .i64) (.pair (.int .i64) .unit)))))]⟩)])]
noncomputable def p56 : PE := (comp tysC [e74] h56 Try.f56 [(.vw, (.lst false (.pair (.lst false .str) (.pair (.int .i64) (.pair (.int .i64) .unit)))))] true (.lst true (.pair (.lst true .str) (.pair (.int .i64) (.pair (.int .i64) .unit))))).getD .bot
noncomputable def e56 : Ent := ⟨56, [(.vw, (.lst false (.pair (.lst false .str) (.pair (.int .i64) (.pair (.int .i64) .unit)))))], true, (.lst true (.pair (.lst true .str) (.pair (.int .i64) (.pair (.int .i64) .unit)))), runPE [e74] p56⟩
theorem ok56 : e56.Ok Try.prog := Ent.ok_of (pe := p56) (fn := Try.f56) (hs := h56) envC (ok_cons ok74 ok_nil) Try.func56 (by decide +kernel) (some_getD (d := PE.bot) (by kernel_rfl)) rfl

/-- loop.example/g00300/laws.toChain -/
def h19 : List (Nat × Hint) := []
noncomputable def p19 : PE := (comp tysC [e56] h19 Try.f19 [(.vw, (.pair (.lst false (.pair (.lst false .str) (.pair (.int .i64) (.pair (.int .i64) .unit)))) .unit))] true (.pair (.lst true (.pair (.lst true .str) (.pair (.int .i64) (.pair (.int .i64) .unit)))) .unit)).getD .bot
noncomputable def e19 : Ent := ⟨19, [(.vw, (.pair (.lst false (.pair (.lst false .str) (.pair (.int .i64) (.pair (.int .i64) .unit)))) .unit))], true, (.pair (.lst true (.pair (.lst true .str) (.pair (.int .i64) (.pair (.int .i64) .unit)))) .unit), runPE [e56] p19⟩
theorem ok19 : e19.Ok Try.prog := Ent.ok_of (pe := p19) (fn := Try.f19) (hs := h19) envC (ok_cons ok56 ok_nil) Try.func19 (by decide +kernel) (some_getD (d := PE.bot) (by kernel_rfl)) rfl

/-- loop.example/g00300/spec.l15Begins -/
def h55 : List (Nat × Hint) := [(26, .loop ⟨[0, 1, 7], [(8, 0, (.int .i64))]⟩ [(1, ⟨[4], []⟩), (2, ⟨[], []⟩)]), (1689, .join [(0, ⟨[0, 1, 7, 8], [(25, 0, .bool)]⟩)])]
noncomputable def p55 : PE := (comp tysC [] h55 Try.f55 [(.vw, (.lst false .str)), (.vw, (.lst false .str))] true .bool).getD .bot
noncomputable def e55 : Ent := ⟨55, [(.vw, (.lst false .str)), (.vw, (.lst false .str))], true, .bool, runPE [] p55⟩
theorem ok55 : e55.Ok Try.prog := Ent.ok_of (pe := p55) (fn := Try.f55) (hs := h55) envC ok_nil Try.func55 (by decide +kernel) (some_getD (d := PE.bot) (by kernel_rfl)) rfl

/-- loop.example/g00300/spec.GoodChain -/
def h18 : List (Nat × Hint) := [(250, .loop ⟨[1, 3, 4, 22, 23], [(24, 0, (.int .i64))]⟩ [(1, ⟨[], [(2, 0, .bool)]⟩), (2, ⟨[], []⟩)]), (2003, .join [(0, ⟨[1, 3, 4, 22, 23, 24], []⟩), (1, ⟨[], [(2, 0, .bool)]⟩)]), (128207, .join [(0, ⟨[1, 3, 4, 22, 23, 24], [(108, 0, .bool)]⟩)]), (1025652, .join [(0, ⟨[1, 3, 4, 22, 23, 24], [(75, 0, .bool)]⟩)]), (64102, .join [(0, ⟨[1, 3, 4, 5, 6, 22, 23, 24], [(60, 0, .bool)]⟩)]), (128202, .loop ⟨[1, 3, 4, 5, 6, 22, 23, 24, 30, 31], [(32, 0, (.int .i64))]⟩ [(1, ⟨[], [(2, 0, .bool)]⟩), (4, ⟨[1, 3, 4, 5, 6, 22, 23, 24], []⟩)])]
noncomputable def p18 : PE := (comp tysC [e49, e55] h18 Try.f18 [(.vw, (.pair (.lst false (.pair (.lst false .str) (.pair (.int .i64) (.pair (.int .i64) .unit)))) .unit))] true .bool).getD .bot
noncomputable def e18 : Ent := ⟨18, [(.vw, (.pair (.lst false (.pair (.lst false .str) (.pair (.int .i64) (.pair (.int .i64) .unit)))) .unit))], true, .bool, runPE [e49, e55] p18⟩
theorem ok18 : e18.Ok Try.prog := Ent.ok_of (pe := p18) (fn := Try.f18) (hs := h18) envC (ok_cons ok49 (ok_cons ok55 ok_nil)) Try.func18 (by decide +kernel) (some_getD (d := PE.bot) (by kernel_rfl)) rfl

/-- loop.example/g00300/impl.isLink$1 -/
def h76 : List (Nat × Hint) := []
noncomputable def p76 : PE := (comp tysC [] h76 Try.f76 [(.vw, .str)] true .bool).getD .bot
noncomputable def e76 : Ent := ⟨76, [(.vw, .str)], true, .bool, runPE [] p76⟩
theorem ok76 : e76.Ok Try.prog := Ent.ok_of (pe := p76) (fn := Try.f76) (hs := h76) envC ok_nil Try.func76 (by decide +kernel) (some_getD (d := PE.bot) (by kernel_rfl)) rfl

/-- slices.IndexFunc[[]string,string] -/
def h86 : List (Nat × Hint) := [(26, .loop ⟨[0, 1, 7], [(8, 0, (.int .i64))]⟩ [(1, ⟨[], [(4, 0, (.int .i64))]⟩), (2, ⟨[], []⟩)])]
noncomputable def p86 : PE := (comp tysC [e76] h86 Try.f86 [(.vw, (.lst false .str)), (.vw, (.fn 76 .unit))] true (.int .i64)).getD .bot
noncomputable def e86 : Ent := ⟨86, [(.vw, (.lst false .str)), (.vw, (.fn 76 .unit))], true, (.int .i64), runPE [e76] p86⟩
theorem ok86 : e86.Ok Try.prog := Ent.ok_of (pe := p86) (fn := Try.f86) (hs := h86) envC (ok_cons ok76 ok_nil) Try.func86 (by decide +kernel) (some_getD (d := PE.bot) (by kernel_rfl)) rfl

/-- slices.ContainsFunc[[]string,string] -/
def h75 : List (Nat × Hint) := []
noncomputable def p75 : PE := (comp tysC [e86] h75 Try.f75 [(.vw, (.lst false .str)), (.vw, (.fn 76 .unit))] true .bool).getD .bot
noncomputable def e75 : Ent := ⟨75, [(.vw, (.lst false .str)), (.vw, (.fn 76 .unit))], true, .bool, runPE [e86] p75⟩
theorem ok75 : e75.Ok Try.prog := Ent.ok_of (pe := p75) (fn := Try.f75) (hs := h75) envC (ok_cons ok86 ok_nil) Try.func75 (by decide +kernel) (some_getD (d := PE.bot) (by kernel_rfl)) rfl

/-- slices.Equal[[]string,string] -/
def h87 : List (Nat × Hint) := [(58, .loop ⟨[0, 1, 12], [(13, 0, (.int .i64))]⟩ [(1, ⟨[4], []⟩), (2, ⟨[], []⟩)])]
noncomputable def p87 : PE := (comp tysC [] h87 Try.f87 [(.vw, (.lst false .str)), (.vw, (.lst false .str))] true .bool).getD .bot
noncomputable def e87 : Ent := ⟨87, [(.vw, (.lst false .str)), (.vw, (.lst false .str))], true, .bool, runPE [] p87⟩
theorem ok87 : e87.Ok Try.prog := Ent.ok_of (pe := p87) (fn := Try.f87) (hs := h87) envC ok_nil Try.func87 (by decide +kernel) (some_getD (d := PE.bot) (by kernel_rfl)) rfl

/-- loop.example/g00300/impl.isBeginning -/
def h77 : List (Nat × Hint) := [(3, .join [(0, ⟨[], [(4, 0, .bool)]⟩)])]
noncomputable def p77 : PE := (comp tysC [e87] h77 Try.f77 [(.vw, (.lst false .str)), (.vw, (.lst false .str))] true .bool).getD .bot
noncomputable def e77 : Ent := ⟨77, [(.vw, (.lst false .str)), (.vw, (.lst false .str))], true, .bool, runPE [e87] p77⟩
theorem ok77 : e77.Ok Try.prog := Ent.ok_of (pe := p77) (fn := Try.f77) (hs := h77) envC (ok_cons ok87 ok_nil) Try.func77 (by decide +kernel) (some_getD (d := PE.bot) (by kernel_rfl)) rfl

/-- loop.example/g00300/impl.isLink -/
def h57 : List (Nat × Hint) := [(127, .join [(0, ⟨[], [(4, 0, .bool)]⟩)]), (250, .join [(0, ⟨[], [(4, 0, .bool)]⟩)]), (30, .join [(0, ⟨[1, 2, 5, 6], [(25, 0, .bool)]⟩)])]
noncomputable def p57 : PE := (comp tysC [e75, e77, e50] h57 Try.f57 [(.vw, (.pair (.lst false (.pair (.lst false .str) (.pair (.int .i64) (.pair (.int .i64) .unit)))) .unit)), (.vw, (.int .i64))] true .bool).getD .bot
noncomputable def e57 : Ent := ⟨57, [(.vw, (.pair (.lst false (.pair (.lst false .str) (.pair (.int .i64) (.pair (.int .i64) .unit)))) .unit)), (.vw, (.int .i64))], true, .bool, runPE [e75, e77, e50] p57⟩
theorem ok57 : e57.Ok Try.prog := Ent.ok_of (pe := p57) (fn := Try.f57) (hs := h57) envC (ok_cons ok75 (ok_cons ok77 (ok_cons ok50 ok_nil))) Try.func57 (by decide +kernel) (some_getD (d := PE.bot) (by kernel_rfl)) rfl

/-- loop.example/g00300/impl.GoodChain -/
def h20 : List (Nat × Hint) := [(58, .loop ⟨[1, 11], [(12, 0, (.int .i64))]⟩ [(1, ⟨[2], []⟩), (2, ⟨[], []⟩)])]
noncomputable def p20 : PE := (comp tysC [e50, e57] h20 Try.f20 [(.vw, (.pair (.lst false (.pair (.lst false .str) (.pair (.int .i64) (.pair (.int .i64) .unit)))) .unit))] true .bool).getD .bot
noncomputable def e20 : Ent := ⟨20, [(.vw, (.pair (.lst false (.pair (.lst false .str) (.pair (.int .i64) (.pair (.int .i64) .unit)))) .unit))], true, .bool, runPE [e50, e57] p20⟩
theorem ok20 : e20.Ok Try.prog := Ent.ok_of (pe := p20) (fn := Try.f20) (hs := h20) envC (ok_cons ok50 (ok_cons ok57 ok_nil)) Try.func20 (by decide +kernel) (some_getD (d := PE.bot) (by kernel_rfl)) rfl

/-- loop.example/g00300/laws.FnExactGoodChain -/
def h4 : List (Nat × Hint) := []
noncomputable def p4 : PE := (comp tysC [e17, e19, e18, e20, e14] h4 Try.f4 [(.vw, (.pair (.lst false (.pair (.lst false .str) (.pair (.int .i64) (.pair (.int .i64) .unit)))) .unit))] true .bool).getD .bot
noncomputable def e4 : Ent := ⟨4, [(.vw, (.pair (.lst false (.pair (.lst false .str) (.pair (.int .i64) (.pair (.int .i64) .unit)))) .unit))], true, .bool, runPE [e17, e19, e18, e20, e14] p4⟩
theorem ok4 : e4.Ok Try.prog := Ent.ok_of (pe := p4) (fn := Try.f4) (hs := h4) envC (ok_cons ok17 (ok_cons ok19 (ok_cons ok18 (ok_cons ok20 (ok_cons ok14 ok_nil))))) Try.func4 (by decide +kernel) (some_getD (d := PE.bot) (by kernel_rfl)) rfl

/-- loop.example/g00300/spec.ReadTail -/
def h21 : List (Nat × Hint) := []
noncomputable def p21 : PE := (comp tysC [e18] h21 Try.f21 [(.vw, (.pair (.lst false (.pair (.lst false .str) (.pair (.int .i64) (.pair (.int .i64) .unit)))) .unit))] false (.pair (.lst true .str) (.pair .bool .unit))).getD .bot
noncomputable def e21 : Ent := ⟨21, [(.vw, (.pair (.lst false (.pair (.lst false .str) (.pair (.int .i64) (.pair (.int .i64) .unit)))) .unit))], false, (.pair (.lst true .str) (.pair .bool .unit)), runPE [e18] p21⟩
theorem ok21 : e21.Ok Try.prog := Ent.ok_of (pe := p21) (fn := Try.f21) (hs := h21) envC (ok_cons ok18 ok_nil) Try.func21 (by decide +kernel) (some_getD (d := PE.bot) (by kernel_rfl)) rfl

/-- slices.Clone[[]string,string] -/
def h58 : List (Nat × Hint) := []
noncomputable def p58 : PE := (comp tysC [] h58 Try.f58 [(.vw, (.lst false .str))] true (.lst true .str)).getD .bot
noncomputable def e58 : Ent := ⟨58, [(.vw, (.lst false .str))], true, (.lst true .str), runPE [] p58⟩
theorem ok58 : e58.Ok Try.prog := Ent.ok_of (pe := p58) (fn := Try.f58) (hs := h58) envC ok_nil Try.func58 (by decide +kernel) (some_getD (d := PE.bot) (by kernel_rfl)) rfl

/-- loop.example/g00300/impl.ReadTail -/
def h22 : List (Nat × Hint) := []
noncomputable def p22 : PE := (comp tysC [e20, e58] h22 Try.f22 [(.vw, (.pair (.lst false (.pair (.lst false .str) (.pair (.int .i64) (.pair (.int .i64) .unit)))) .unit))] false (.pair (.lst true .str) (.pair .bool .unit))).getD .bot
noncomputable def e22 : Ent := ⟨22, [(.vw, (.pair (.lst false (.pair (.lst false .str) (.pair (.int .i64) (.pair (.int .i64) .unit)))) .unit))], false, (.pair (.lst true .str) (.pair .bool .unit)), runPE [e20, e58] p22⟩
theorem ok22 : e22.Ok Try.prog := Ent.ok_of (pe := p22) (fn := Try.f22) (hs := h22) envC (ok_cons ok20 (ok_cons ok58 ok_nil)) Try.func22 (by decide +kernel) (some_getD (d := PE.bot) (by kernel_rfl)) rfl

/-- loop.example/g00300/laws.markLinkS -/
def h52 : List (Nat × Hint) := [(26, .loop ⟨[], [(0, 0, (.lst true (.pair (.lst true .str) (.pair (.int .i64) (.pair (.int .i64) .unit))))), (1, 0, (.int .i64)), (5, 0, (.int .i64))]⟩ [(2, ⟨[], [(0, 0, (.lst true (.pair (.lst true .str) (.pair (.int .i64) (.pair (.int .i64) .unit))))), (1, 0, (.int .i64))]⟩)])]
noncomputable def p52 : PE := (comp tysC [e24] h52 Try.f52 [(.io, (.lst true (.pair (.lst true .str) (.pair (.int .i64) (.pair (.int .i64) .unit))))), (.vw, (.int .i64))] true (.int .i64)).getD .bot
noncomputable def e52 : Ent := ⟨52, [(.io, (.lst true (.pair (.lst true .str) (.pair (.int .i64) (.pair (.int .i64) .unit))))), (.vw, (.int .i64))], true, (.int .i64), runPE [e24] p52⟩
theorem ok52 : e52.Ok Try.prog := Ent.ok_of (pe := p52) (fn := Try.f52) (hs := h52) envC (ok_cons ok24 ok_nil) Try.func52 (by decide +kernel) (some_getD (d := PE.bot) (by kernel_rfl)) rfl

/-- loop.example/g00300/laws.markChain -/
def h15 : List (Nat × Hint) := []
noncomputable def p15 : PE := (comp tysC [e52] h15 Try.f15 [(.io, (.pair (.lst true (.pair (.lst true .str) (.pair (.int .i64) (.pair (.int .i64) .unit)))) .unit)), (.vw, (.int .i64))] true (.int .i64)).getD .bot
noncomputable def e15 : Ent := ⟨15, [(.io, (.pair (.lst true (.pair (.lst true .str) (.pair (.int .i64) (.pair (.int .i64) .unit)))) .unit)), (.vw, (.int .i64))], true, (.int .i64), runPE [e52] p15⟩
theorem ok15 : e15.Ok Try.prog := Ent.ok_of (pe := p15) (fn := Try.f15) (hs := h15) envC (ok_cons ok52 ok_nil) Try.func15 (by decide +kernel) (some_getD (d := PE.bot) (by kernel_rfl)) rfl

/-- loop.example/g00300/laws.heldStringS -/
def h25 : List (Nat × Hint) := [(26, .loop ⟨[0], [(1, 0, (.int .i64)), (5, 0, (.int .i64))]⟩ [(1, ⟨[], [(4, 0, (.int .i64))]⟩), (2, ⟨[], [(1, 0, (.int .i64))]⟩)])]
noncomputable def p25 : PE := (comp tysC [e59] h25 Try.f25 [(.vw, (.lst false .str)), (.vw, (.int .i64))] true (.int .i64)).getD .bot
noncomputable def e25 : Ent := ⟨25, [(.vw, (.lst false .str)), (.vw, (.int .i64))], true, (.int .i64), runPE [e59] p25⟩
theorem ok25 : e25.Ok Try.prog := Ent.ok_of (pe := p25) (fn := Try.f25) (hs := h25) envC (ok_cons ok59 ok_nil) Try.func25 (by decide +kernel) (some_getD (d := PE.bot) (by kernel_rfl)) rfl

/-- loop.example/g00300/laws.FnExactReadTail -/
def h5 : List (Nat × Hint) := [(2097150, .join [(0, ⟨[7, 10], [(87, 0, .bool)]⟩)]), (8190, .join [(0, ⟨[1, 4, 5, 7], [(61, 0, .bool)]⟩)]), (510, .join [(0, ⟨[1, 4, 5, 6, 7, 8], [(40, 0, .bool)]⟩)])]
noncomputable def p5 : PE := (comp tysC [e17, e19, e21, e22, e23, e14, e15, e24, e25] h5 Try.f5 [(.vw, (.pair (.lst false (.pair (.lst false .str) (.pair (.int .i64) (.pair (.int .i64) .unit)))) .unit))] true .bool).getD .bot
noncomputable def e5 : Ent := ⟨5, [(.vw, (.pair (.lst false (.pair (.lst false .str) (.pair (.int .i64) (.pair (.int .i64) .unit)))) .unit))], true, .bool, runPE [e17, e19, e21, e22, e23, e14, e15, e24, e25] p5⟩
theorem ok5 : e5.Ok Try.prog := Ent.ok_of (pe := p5) (fn := Try.f5) (hs := h5) envC (ok_cons ok17 (ok_cons ok19 (ok_cons ok21 (ok_cons ok22 (ok_cons ok23 (ok_cons ok14 (ok_cons ok15 (ok_cons ok24 (ok_cons ok25 ok_nil))))))))) Try.func5 (by decide +kernel) (some_getD (d := PE.bot) (by kernel_rfl)) rfl

/-- loop.example/g00300/spec.SureIn -/
def h26 : List (Nat × Hint) := []
noncomputable def p26 : PE := (comp tysC [e18] h26 Try.f26 [(.vw, (.pair (.lst false (.pair (.lst false .str) (.pair (.int .i64) (.pair (.int .i64) .unit)))) .unit))] false (.pair (.lst true .str) (.pair .bool .unit))).getD .bot
noncomputable def e26 : Ent := ⟨26, [(.vw, (.pair (.lst false (.pair (.lst false .str) (.pair (.int .i64) (.pair (.int .i64) .unit)))) .unit))], false, (.pair (.lst true .str) (.pair .bool .unit)), runPE [e18] p26⟩
theorem ok26 : e26.Ok Try.prog := Ent.ok_of (pe := p26) (fn := Try.f26) (hs := h26) envC (ok_cons ok18 ok_nil) Try.func26 (by decide +kernel) (some_getD (d := PE.bot) (by kernel_rfl)) rfl

/-- loop.example/g00300/impl.SureIn -/
def h27 : List (Nat × Hint) := []
noncomputable def p27 : PE := (comp tysC [e20, e58] h27 Try.f27 [(.vw, (.pair (.lst false (.pair (.lst false .str) (.pair (.int .i64) (.pair (.int .i64) .unit)))) .unit))] false (.pair (.lst true .str) (.pair .bool .unit))).getD .bot
noncomputable def e27 : Ent := ⟨27, [(.vw, (.pair (.lst false (.pair (.lst false .str) (.pair (.int .i64) (.pair (.int .i64) .unit)))) .unit))], false, (.pair (.lst true .str) (.pair .bool .unit)), runPE [e20, e58] p27⟩
theorem ok27 : e27.Ok Try.prog := Ent.ok_of (pe := p27) (fn := Try.f27) (hs := h27) envC (ok_cons ok20 (ok_cons ok58 ok_nil)) Try.func27 (by decide +kernel) (some_getD (d := PE.bot) (by kernel_rfl)) rfl

/-- loop.example/g00300/laws.FnExactSureIn -/
def h6 : List (Nat × Hint) := [(2097150, .join [(0, ⟨[7, 10], [(87, 0, .bool)]⟩)]), (8190, .join [(0, ⟨[1, 4, 5, 7], [(61, 0, .bool)]⟩)]), (510, .join [(0, ⟨[1, 4, 5, 6, 7, 8], [(40, 0, .bool)]⟩)])]
noncomputable def p6 : PE := (comp tysC [e17, e19, e26, e27, e23, e14, e15, e24, e25] h6 Try.f6 [(.vw, (.pair (.lst false (.pair (.lst false .str) (.pair (.int .i64) (.pair (.int .i64) .unit)))) .unit))] true .bool).getD .bot
noncomputable def e6 : Ent := ⟨6, [(.vw, (.pair (.lst false (.pair (.lst false .str) (.pair (.int .i64) (.pair (.int .i64) .unit)))) .unit))], true, .bool, runPE [e17, e19, e26, e27, e23, e14, e15, e24, e25] p6⟩
theorem ok6 : e6.Ok Try.prog := Ent.ok_of (pe := p6) (fn := Try.f6) (hs := h6) envC (ok_cons ok17 (ok_cons ok19 (ok_cons ok26 (ok_cons ok27 (ok_cons ok23 (ok_cons ok14 (ok_cons ok15 (ok_cons ok24 (ok_cons ok25 ok_nil))))))))) Try.func6 (by decide +kernel) (some_getD (d := PE.bot) (by kernel_rfl)) rfl
end Go.Proofs.Ytajcjfickmmjcaa
