/- The functions that the law reaches, each as a program of expressions. -/
import Derived.Test.YtajcjfickmmjcaaOwZ12
import Derived.Test.YtajcjfickmmjcaaProg
import Derived.KernelRfl
set_option linter.unusedVariables false
set_option linter.unusedSimpArgs false
namespace Go.Proofs.Ytajcjfickmmjcaa
open Go Go.Own
def tysC : List (TypeId × T × Nat) := [(3, (.int .i64), 0), (4, .bool, 0), (9, .str, 0), (22, (.lst true (.pair (.lst true .str) (.pair (.int .i64) (.pair (.int .i64) .unit)))), 40), (24, (.pair (.lst true (.pair (.lst true .str) (.pair (.int .i64) (.pair (.int .i64) .unit)))) .unit), 0), (30, (.lst true (.pair (.lst true .str) (.pair (.int .i64) (.pair (.int .i64) .unit)))), 40), (32, (.pair (.lst true (.pair (.lst true .str) (.pair (.int .i64) (.pair (.int .i64) .unit)))) .unit), 0), (37, (.lst true .str), 16), (47, (.pair (.lst true .str) (.pair (.int .i64) (.pair (.int .i64) .unit))), 0), (94, (.pair (.lst true .str) (.pair (.int .i64) (.pair (.int .i64) .unit))), 0)]
theorem envC : ∀ sig n fx, EnvOk Try.prog ⟨tyOf tysC, ebOf tysC, sig, n, fx⟩ := by
  refine EnvOk.ofL (fun sig n fx t ht => ?_) (by kernel_rfl)
  simp only [tysC, List.map_cons, List.map_nil, List.mem_cons] at ht
  rcases ht with rfl | ht
  · exact ⟨Try.underlying3, rfl, by kernel_rfl⟩
  rcases ht with rfl | ht
  · exact ⟨Try.underlying4, rfl, by kernel_rfl⟩
  rcases ht with rfl | ht
  · exact ⟨Try.underlying9, rfl, by kernel_rfl⟩
  rcases ht with rfl | ht
  · exact ⟨⟨rfl, _, Try.underlying22, rfl, rfl, by kernel_rfl⟩, rfl, by kernel_rfl⟩
  rcases ht with rfl | ht
  · exact ⟨⟨_, Try.underlying24, rfl, rfl, rfl, trivial⟩, rfl, by kernel_rfl⟩
  rcases ht with rfl | ht
  · exact ⟨⟨rfl, _, Try.underlying30, rfl, rfl, by kernel_rfl⟩, rfl, by kernel_rfl⟩
  rcases ht with rfl | ht
  · exact ⟨⟨_, Try.underlying32, rfl, rfl, rfl, trivial⟩, rfl, by kernel_rfl⟩
  rcases ht with rfl | ht
  · exact ⟨⟨rfl, _, Try.underlying37, rfl, rfl, by kernel_rfl⟩, rfl, by kernel_rfl⟩
  rcases ht with rfl | ht
  · exact ⟨⟨_, Try.underlying47, rfl, rfl, rfl, rfl, rfl, rfl, rfl, rfl, rfl, trivial⟩, rfl, by kernel_rfl⟩
  rcases ht with rfl | ht
  · exact ⟨⟨_, Try.underlying94, rfl, rfl, rfl, rfl, rfl, rfl, rfl, rfl, rfl, trivial⟩, rfl, by kernel_rfl⟩
  cases ht

/-- loop.example/g00300/spec.l1In -/
def h49 : List (Nat × Hint) := [(3, .join [(0, ⟨[], [(6, 0, .bool)]⟩)])]
noncomputable def p49 : PE := (comp tysC [] h49 Try.f49 [(.vw, (.int .i64)), (.vw, (.int .i64)), (.vw, (.int .i64))] true .bool).getD .bot
noncomputable def e49 : Ent := ⟨49, [(.vw, (.int .i64)), (.vw, (.int .i64)), (.vw, (.int .i64))], true, .bool, runPE [] p49⟩
theorem ok49 : e49.Ok Try.prog := Ent.ok_of (pe := p49) (fn := Try.f49) (hs := h49) envC ok_nil Try.func49 (by decide +kernel) (some_getD (d := PE.bot) (by kernel_rfl)) rfl

/-- loop.example/g00300/impl.within -/
def h50 : List (Nat × Hint) := [(3, .join [(0, ⟨[], [(6, 0, .bool)]⟩)])]
noncomputable def p50 : PE := (comp tysC [] h50 Try.f50 [(.vw, (.int .i64)), (.vw, (.int .i64)), (.vw, (.int .i64))] true .bool).getD .bot
noncomputable def e50 : Ent := ⟨50, [(.vw, (.int .i64)), (.vw, (.int .i64)), (.vw, (.int .i64))], true, .bool, runPE [] p50⟩
theorem ok50 : e50.Ok Try.prog := Ent.ok_of (pe := p50) (fn := Try.f50) (hs := h50) envC ok_nil Try.func50 (by decide +kernel) (some_getD (d := PE.bot) (by kernel_rfl)) rfl

/-- loop.example/g00300/laws.eqStringS -/
def h23 : List (Nat × Hint) := [(58, .loop ⟨[0, 1], [(5, 0, (.int .i64))]⟩ [(1, ⟨[4], []⟩), (2, ⟨[], []⟩)])]
noncomputable def p23 : PE := (comp tysC [] h23 Try.f23 [(.vw, (.lst false .str)), (.vw, (.lst false .str))] true .bool).getD .bot
noncomputable def e23 : Ent := ⟨23, [(.vw, (.lst false .str)), (.vw, (.lst false .str))], true, .bool, runPE [] p23⟩
theorem ok23 : e23.Ok Try.prog := Ent.ok_of (pe := p23) (fn := Try.f23) (hs := h23) envC ok_nil Try.func23 (by decide +kernel) (some_getD (d := PE.bot) (by kernel_rfl)) rfl

/-- loop.example/g00300/laws.eqLink -/
def h72 : List (Nat × Hint) := []
noncomputable def p72 : PE := (comp tysC [e23] h72 Try.f72 [(.vw, (.pair (.lst false .str) (.pair (.int .i64) (.pair (.int .i64) .unit)))), (.vw, (.pair (.lst false .str) (.pair (.int .i64) (.pair (.int .i64) .unit))))] true .bool).getD .bot
noncomputable def e72 : Ent := ⟨72, [(.vw, (.pair (.lst false .str) (.pair (.int .i64) (.pair (.int .i64) .unit)))), (.vw, (.pair (.lst false .str) (.pair (.int .i64) (.pair (.int .i64) .unit))))], true, .bool, runPE [e23] p72⟩
theorem ok72 : e72.Ok Try.prog := Ent.ok_of (pe := p72) (fn := Try.f72) (hs := h72) envC (ok_cons ok23 ok_nil) Try.func72 (by decide +kernel) (some_getD (d := PE.bot) (by kernel_rfl)) rfl

/-- loop.example/g00300/laws.eqLinkS -/
def h51 : List (Nat × Hint) := [(58, .loop ⟨[0, 1], [(5, 0, (.int .i64))]⟩ [(1, ⟨[4], []⟩), (2, ⟨[], []⟩)])]
noncomputable def p51 : PE := (comp tysC [e72] h51 Try.f51 [(.vw, (.lst false (.pair (.lst false .str) (.pair (.int .i64) (.pair (.int .i64) .unit))))), (.vw, (.lst false (.pair (.lst false .str) (.pair (.int .i64) (.pair (.int .i64) .unit)))))] true .bool).getD .bot
noncomputable def e51 : Ent := ⟨51, [(.vw, (.lst false (.pair (.lst false .str) (.pair (.int .i64) (.pair (.int .i64) .unit))))), (.vw, (.lst false (.pair (.lst false .str) (.pair (.int .i64) (.pair (.int .i64) .unit)))))], true, .bool, runPE [e72] p51⟩
theorem ok51 : e51.Ok Try.prog := Ent.ok_of (pe := p51) (fn := Try.f51) (hs := h51) envC (ok_cons ok72 ok_nil) Try.func51 (by decide +kernel) (some_getD (d := PE.bot) (by kernel_rfl)) rfl

/-- loop.example/g00300/laws.eqChain -/
def h14 : List (Nat × Hint) := []
noncomputable def p14 : PE := (comp tysC [e51] h14 Try.f14 [(.vw, (.pair (.lst false (.pair (.lst false .str) (.pair (.int .i64) (.pair (.int .i64) .unit)))) .unit)), (.vw, (.pair (.lst false (.pair (.lst false .str) (.pair (.int .i64) (.pair (.int .i64) .unit)))) .unit))] true .bool).getD .bot
noncomputable def e14 : Ent := ⟨14, [(.vw, (.pair (.lst false (.pair (.lst false .str) (.pair (.int .i64) (.pair (.int .i64) .unit)))) .unit)), (.vw, (.pair (.lst false (.pair (.lst false .str) (.pair (.int .i64) (.pair (.int .i64) .unit)))) .unit))], true, .bool, runPE [e51] p14⟩
theorem ok14 : e14.Ok Try.prog := Ent.ok_of (pe := p14) (fn := Try.f14) (hs := h14) envC (ok_cons ok51 ok_nil) Try.func14 (by decide +kernel) (some_getD (d := PE.bot) (by kernel_rfl)) rfl

/-- loop.example/g00300/laws.szStringS -/
def h84 : List (Nat × Hint) := [(122, .loop ⟨[0], [(1, 0, (.int .i64)), (5, 0, (.int .i64))]⟩ [(1, ⟨[], [(4, 0, (.int .i64))]⟩), (2, ⟨[], [(1, 0, (.int .i64))]⟩)])]
noncomputable def p84 : PE := (comp tysC [] h84 Try.f84 [(.vw, (.lst false .str)), (.vw, (.int .i64))] true (.int .i64)).getD .bot
noncomputable def e84 : Ent := ⟨84, [(.vw, (.lst false .str)), (.vw, (.int .i64))], true, (.int .i64), runPE [] p84⟩
theorem ok84 : e84.Ok Try.prog := Ent.ok_of (pe := p84) (fn := Try.f84) (hs := h84) envC ok_nil Try.func84 (by decide +kernel) (some_getD (d := PE.bot) (by kernel_rfl)) rfl

/-- loop.example/g00300/laws.szLink -/
def h73 : List (Nat × Hint) := []
noncomputable def p73 : PE := (comp tysC [e84] h73 Try.f73 [(.vw, (.pair (.lst false .str) (.pair (.int .i64) (.pair (.int .i64) .unit)))), (.vw, (.int .i64))] true (.int .i64)).getD .bot
noncomputable def e73 : Ent := ⟨73, [(.vw, (.pair (.lst false .str) (.pair (.int .i64) (.pair (.int .i64) .unit)))), (.vw, (.int .i64))], true, (.int .i64), runPE [e84] p73⟩
theorem ok73 : e73.Ok Try.prog := Ent.ok_of (pe := p73) (fn := Try.f73) (hs := h73) envC (ok_cons ok84 ok_nil) Try.func73 (by decide +kernel) (some_getD (d := PE.bot) (by kernel_rfl)) rfl

/-- loop.example/g00300/laws.szLinkS -/
def h54 : List (Nat × Hint) := [(122, .loop ⟨[0], [(1, 0, (.int .i64)), (5, 0, (.int .i64))]⟩ [(1, ⟨[], [(4, 0, (.int .i64))]⟩), (2, ⟨[], [(1, 0, (.int .i64))]⟩)])]
noncomputable def p54 : PE := (comp tysC [e73] h54 Try.f54 [(.vw, (.lst false (.pair (.lst false .str) (.pair (.int .i64) (.pair (.int .i64) .unit))))), (.vw, (.int .i64))] true (.int .i64)).getD .bot
noncomputable def e54 : Ent := ⟨54, [(.vw, (.lst false (.pair (.lst false .str) (.pair (.int .i64) (.pair (.int .i64) .unit))))), (.vw, (.int .i64))], true, (.int .i64), runPE [e73] p54⟩
theorem ok54 : e54.Ok Try.prog := Ent.ok_of (pe := p54) (fn := Try.f54) (hs := h54) envC (ok_cons ok73 ok_nil) Try.func54 (by decide +kernel) (some_getD (d := PE.bot) (by kernel_rfl)) rfl

/-- loop.example/g00300/laws.szChain -/
def h17 : List (Nat × Hint) := []
noncomputable def p17 : PE := (comp tysC [e54] h17 Try.f17 [(.vw, (.pair (.lst false (.pair (.lst false .str) (.pair (.int .i64) (.pair (.int .i64) .unit)))) .unit)), (.vw, (.int .i64))] true (.int .i64)).getD .bot
noncomputable def e17 : Ent := ⟨17, [(.vw, (.pair (.lst false (.pair (.lst false .str) (.pair (.int .i64) (.pair (.int .i64) .unit)))) .unit)), (.vw, (.int .i64))], true, (.int .i64), runPE [e54] p17⟩
theorem ok17 : e17.Ok Try.prog := Ent.ok_of (pe := p17) (fn := Try.f17) (hs := h17) envC (ok_cons ok54 ok_nil) Try.func17 (by decide +kernel) (some_getD (d := PE.bot) (by kernel_rfl)) rfl

/-- loop.example/g00300/laws.toStringS -/
def h85 : List (Nat × Hint) := [(58, .loop ⟨[0], [(3, 0, (.lst true .str)), (4, 0, (.int .i64))]⟩ [(2, ⟨[], [(3, 0, (.lst true .str))]⟩)])]
noncomputable def p85 : PE := (comp tysC [] h85 Try.f85 [(.vw, (.lst false .str))] true (.lst true .str)).getD .bot
noncomputable def e85 : Ent := ⟨85, [(.vw, (.lst false .str))], true, (.lst true .str), runPE [] p85⟩
theorem ok85 : e85.Ok Try.prog := Ent.ok_of (pe := p85) (fn := Try.f85) (hs := h85) envC ok_nil Try.func85 (by decide +kernel) (some_getD (d := PE.bot) (by kernel_rfl)) rfl

/-- loop.example/g00300/laws.toLink -/
def h74 : List (Nat × Hint) := []
noncomputable def p74 : PE := (comp tysC [e85] h74 Try.f74 [(.vw, (.pair (.lst false .str) (.pair (.int .i64) (.pair (.int .i64) .unit))))] true (.pair (.lst true .str) (.pair (.int .i64) (.pair (.int .i64) .unit)))).getD .bot
noncomputable def e74 : Ent := ⟨74, [(.vw, (.pair (.lst false .str) (.pair (.int .i64) (.pair (.int .i64) .unit))))], true, (.pair (.lst true .str) (.pair (.int .i64) (.pair (.int .i64) .unit))), runPE [e85] p74⟩
theorem ok74 : e74.Ok Try.prog := Ent.ok_of (pe := p74) (fn := Try.f74) (hs := h74) envC (ok_cons ok85 ok_nil) Try.func74 (by decide +kernel) (some_getD (d := PE.bot) (by kernel_rfl)) rfl

/-- loop.example/g00300/laws.toLinkS -/
def h56 : List (Nat × Hint) := [(58, .loop ⟨[0], [(3, 0, (.lst true (.pair (.lst true .str) (.pair (.int .i64) (.pair (.int .i64) .unit))))), (4, 0, (.int .i64))]⟩ [(2, ⟨[], [(3, 0, (.lst true (.pair (.lst true .str) (.pair (.int .i64) (.pair (.int .i64) .unit)))))]⟩)])]
noncomputable def p56 : PE := (comp tysC [e74] h56 Try.f56 [(.vw, (.lst false (.pair (.lst false .str) (.pair (.int .i64) (.pair (.int .i64) .unit)))))] true (.lst true (.pair (.lst true .str) (.pair (.int .i64) (.pair (.int .i64) .unit))))).getD .bot
noncomputable def e56 : Ent := ⟨56, [(.vw, (.lst false (.pair (.lst false .str) (.pair (.int .i64) (.pair (.int .i64) .unit)))))], true, (.lst true (.pair (.lst true .str) (.pair (.int .i64) (.pair (.int .i64) .unit)))), runPE [e74] p56⟩
theorem ok56 : e56.Ok Try.prog := Ent.ok_of (pe := p56) (fn := Try.f56) (hs := h56) envC (ok_cons ok74 ok_nil) Try.func56 (by decide +kernel) (some_getD (d := PE.bot) (by kernel_rfl)) rfl

/-- loop.example/g00300/laws.toChain -/
def h19 : List (Nat × Hint) := []
noncomputable def p19 : PE := (comp tysC [e56] h19 Try.f19 [(.vw, (.pair (.lst false (.pair (.lst false .str) (.pair (.int .i64) (.pair (.int .i64) .unit)))) .unit))] true (.pair (.lst true (.pair (.lst true .str) (.pair (.int .i64) (.pair (.int .i64) .unit)))) .unit)).getD .bot
noncomputable def e19 : Ent := ⟨19, [(.vw, (.pair (.lst false (.pair (.lst false .str) (.pair (.int .i64) (.pair (.int .i64) .unit)))) .unit))], true, (.pair (.lst true (.pair (.lst true .str) (.pair (.int .i64) (.pair (.int .i64) .unit)))) .unit), runPE [e56] p19⟩
theorem ok19 : e19.Ok Try.prog := Ent.ok_of (pe := p19) (fn := Try.f19) (hs := h19) envC (ok_cons ok56 ok_nil) Try.func19 (by decide +kernel) (some_getD (d := PE.bot) (by kernel_rfl)) rfl

/-- loop.example/g00300/spec.l15Begins -/
def h55 : List (Nat × Hint) := [(26, .loop ⟨[0, 1, 7], [(8, 0, (.int .i64))]⟩ [(1, ⟨[4], []⟩), (2, ⟨[], []⟩)]), (1689, .join [(0, ⟨[0, 1, 7, 8], [(25, 0, .bool)]⟩)])]
noncomputable def p55 : PE := (comp tysC [] h55 Try.f55 [(.vw, (.lst false .str)), (.vw, (.lst false .str))] true .bool).getD .bot
noncomputable def e55 : Ent := ⟨55, [(.vw, (.lst false .str)), (.vw, (.lst false .str))], true, .bool, runPE [] p55⟩
theorem ok55 : e55.Ok Try.prog := Ent.ok_of (pe := p55) (fn := Try.f55) (hs := h55) envC ok_nil Try.func55 (by decide +kernel) (some_getD (d := PE.bot) (by kernel_rfl)) rfl

/-- loop.example/g00300/spec.GoodChain -/
def h18 : List (Nat × Hint) := [(250, .loop ⟨[1, 3, 4, 22, 23], [(24, 0, (.int .i64))]⟩ [(1, ⟨[], [(2, 0, .bool)]⟩), (2, ⟨[], []⟩)]), (2003, .join [(0, ⟨[1, 3, 4, 22, 23, 24], []⟩), (1, ⟨[], [(2, 0, .bool)]⟩)]), (128207, .join [(0, ⟨[1, 3, 4, 22, 23, 24], [(108, 0, .bool)]⟩)]), (1025652, .join [(0, ⟨[1, 3, 4, 22, 23, 24], [(75, 0, .bool)]⟩)]), (64102, .join [(0, ⟨[1, 3, 4, 5, 6, 22, 23, 24], [(60, 0, .bool)]⟩)]), (128202, .loop ⟨[1, 3, 4, 5, 6, 22, 23, 24, 30, 31], [(32, 0, (.int .i64))]⟩ [(1, ⟨[], [(2, 0, .bool)]⟩), (4, ⟨[1, 3, 4, 5, 6, 22, 23, 24], []⟩)])]
noncomputable def p18 : PE := (comp tysC [e49, e55] h18 Try.f18 [(.vw, (.pair (.lst false (.pair (.lst false .str) (.pair (.int .i64) (.pair (.int .i64) .unit)))) .unit))] true .bool).getD .bot
noncomputable def e18 : Ent := ⟨18, [(.vw, (.pair (.lst false (.pair (.lst false .str) (.pair (.int .i64) (.pair (.int .i64) .unit)))) .unit))], true, .bool, runPE [e49, e55] p18⟩
theorem ok18 : e18.Ok Try.prog := Ent.ok_of (pe := p18) (fn := Try.f18) (hs := h18) envC (ok_cons ok49 (ok_cons ok55 ok_nil)) Try.func18 (by decide +kernel) (some_getD (d := PE.bot) (by kernel_rfl)) rfl

/-- loop.example/g00300/impl.isLink$1 -/
def h76 : List (Nat × Hint) := []
noncomputable def p76 : PE := (comp tysC [] h76 Try.f76 [(.vw, .str)] true .bool).getD .bot
noncomputable def e76 : Ent := ⟨76, [(.vw, .str)], true, .bool, runPE [] p76⟩
theorem ok76 : e76.Ok Try.prog := Ent.ok_of (pe := p76) (fn := Try.f76) (hs := h76) envC ok_nil Try.func76 (by decide +kernel) (some_getD (d := PE.bot) (by kernel_rfl)) rfl

/-- slices.IndexFunc[[]string,string] -/
def h86 : List (Nat × Hint) := [(26, .loop ⟨[0, 1, 7], [(8, 0, (.int .i64))]⟩ [(1, ⟨[], [(4, 0, (.int .i64))]⟩), (2, ⟨[], []⟩)])]
noncomputable def p86 : PE := (comp tysC [e76] h86 Try.f86 [(.vw, (.lst false .str)), (.vw, (.fn 76 .unit))] true (.int .i64)).getD .bot
noncomputable def e86 : Ent := ⟨86, [(.vw, (.lst false .str)), (.vw, (.fn 76 .unit))], true, (.int .i64), runPE [e76] p86⟩
theorem ok86 : e86.Ok Try.prog := Ent.ok_of (pe := p86) (fn := Try.f86) (hs := h86) envC (ok_cons ok76 ok_nil) Try.func86 (by decide +kernel) (some_getD (d := PE.bot) (by kernel_rfl)) rfl

/-- slices.ContainsFunc[[]string,string] -/
def h75 : List (Nat × Hint) := []
noncomputable def p75 : PE := (comp tysC [e86] h75 Try.f75 [(.vw, (.lst false .str)), (.vw, (.fn 76 .unit))] true .bool).getD .bot
noncomputable def e75 : Ent := ⟨75, [(.vw, (.lst false .str)), (.vw, (.fn 76 .unit))], true, .bool, runPE [e86] p75⟩
theorem ok75 : e75.Ok Try.prog := Ent.ok_of (pe := p75) (fn := Try.f75) (hs := h75) envC (ok_cons ok86 ok_nil) Try.func75 (by decide +kernel) (some_getD (d := PE.bot) (by kernel_rfl)) rfl

/-- slices.Equal[[]string,string] -/
def h87 : List (Nat × Hint) := [(58, .loop ⟨[0, 1, 12], [(13, 0, (.int .i64))]⟩ [(1, ⟨[4], []⟩), (2, ⟨[], []⟩)])]
noncomputable def p87 : PE := (comp tysC [] h87 Try.f87 [(.vw, (.lst false .str)), (.vw, (.lst false .str))] true .bool).getD .bot
noncomputable def e87 : Ent := ⟨87, [(.vw, (.lst false .str)), (.vw, (.lst false .str))], true, .bool, runPE [] p87⟩
theorem ok87 : e87.Ok Try.prog := Ent.ok_of (pe := p87) (fn := Try.f87) (hs := h87) envC ok_nil Try.func87 (by decide +kernel) (some_getD (d := PE.bot) (by kernel_rfl)) rfl

/-- loop.example/g00300/impl.isBeginning -/
def h77 : List (Nat × Hint) := [(3, .join [(0, ⟨[], [(4, 0, .bool)]⟩)])]
noncomputable def p77 : PE := (comp tysC [e87] h77 Try.f77 [(.vw, (.lst false .str)), (.vw, (.lst false .str))] true .bool).getD .bot
noncomputable def e77 : Ent := ⟨77, [(.vw, (.lst false .str)), (.vw, (.lst false .str))], true, .bool, runPE [e87] p77⟩
theorem ok77 : e77.Ok Try.prog := Ent.ok_of (pe := p77) (fn := Try.f77) (hs := h77) envC (ok_cons ok87 ok_nil) Try.func77 (by decide +kernel) (some_getD (d := PE.bot) (by kernel_rfl)) rfl

/-- loop.example/g00300/impl.isLink -/
def h57 : List (Nat × Hint) := [(127, .join [(0, ⟨[], [(4, 0, .bool)]⟩)]), (250, .join [(0, ⟨[], [(4, 0, .bool)]⟩)]), (30, .join [(0, ⟨[1, 2, 5, 6], [(25, 0, .bool)]⟩)])]
noncomputable def p57 : PE := (comp tysC [e75, e77, e50] h57 Try.f57 [(.vw, (.pair (.lst false (.pair (.lst false .str) (.pair (.int .i64) (.pair (.int .i64) .unit)))) .unit)), (.vw, (.int .i64))] true .bool).getD .bot
noncomputable def e57 : Ent := ⟨57, [(.vw, (.pair (.lst false (.pair (.lst false .str) (.pair (.int .i64) (.pair (.int .i64) .unit)))) .unit)), (.vw, (.int .i64))], true, .bool, runPE [e75, e77, e50] p57⟩
theorem ok57 : e57.Ok Try.prog := Ent.ok_of (pe := p57) (fn := Try.f57) (hs := h57) envC (ok_cons ok75 (ok_cons ok77 (ok_cons ok50 ok_nil))) Try.func57 (by decide +kernel) (some_getD (d := PE.bot) (by kernel_rfl)) rfl

/-- loop.example/g00300/impl.GoodChain -/
def h20 : List (Nat × Hint) := [(58, .loop ⟨[1, 11], [(12, 0, (.int .i64))]⟩ [(1, ⟨[2], []⟩), (2, ⟨[], []⟩)])]
noncomputable def p20 : PE := (comp tysC [e50, e57] h20 Try.f20 [(.vw, (.pair (.lst false (.pair (.lst false .str) (.pair (.int .i64) (.pair (.int .i64) .unit)))) .unit))] true .bool).getD .bot
noncomputable def e20 : Ent := ⟨20, [(.vw, (.pair (.lst false (.pair (.lst false .str) (.pair (.int .i64) (.pair (.int .i64) .unit)))) .unit))], true, .bool, runPE [e50, e57] p20⟩
theorem ok20 : e20.Ok Try.prog := Ent.ok_of (pe := p20) (fn := Try.f20) (hs := h20) envC (ok_cons ok50 (ok_cons ok57 ok_nil)) Try.func20 (by decide +kernel) (some_getD (d := PE.bot) (by kernel_rfl)) rfl

/-- loop.example/g00300/laws.FnExactGoodChain -/
def h4 : List (Nat × Hint) := []
noncomputable def p4 : PE := (comp tysC [e17, e19, e18, e20, e14] h4 Try.f4 [(.vw, (.pair (.lst false (.pair (.lst false .str) (.pair (.int .i64) (.pair (.int .i64) .unit)))) .unit))] true .bool).getD .bot
noncomputable def e4 : Ent := ⟨4, [(.vw, (.pair (.lst false (.pair (.lst false .str) (.pair (.int .i64) (.pair (.int .i64) .unit)))) .unit))], true, .bool, runPE [e17, e19, e18, e20, e14] p4⟩
theorem ok4 : e4.Ok Try.prog := Ent.ok_of (pe := p4) (fn := Try.f4) (hs := h4) envC (ok_cons ok17 (ok_cons ok19 (ok_cons ok18 (ok_cons ok20 (ok_cons ok14 ok_nil))))) Try.func4 (by decide +kernel) (some_getD (d := PE.bot) (by kernel_rfl)) rfl
end Go.Proofs.Ytajcjfickmmjcaa
