/- It is proved that laws.FnExactPutNone returns true for every input: the program puts into a cache that there is none as the reference does. Conditions: those of the given statement alone. -/
import Derived.Test.YtkogmjbmbpcbeaaGreatDoorP7
import Derived.Lib.LaidTab
import Derived.Test.YtkogmjbmbpcbeaaGreatDoorCards
import Derived.Test.YtkogmjbmbpcbeaaGreatDoorTie
import Derived.Deep.DeepHandedRow
import Derived.HandedShaped
import Derived.LaidMore
set_option linter.unusedSectionVars false
set_option linter.unusedVariables false
set_option linter.unusedSimpArgs false
namespace Go.Own
open Go
theorem zLA {H : Type} {enc : TypeId × Value → H} {P : Program} {w : World} {base : Nat} {sp : Nat → Bool} {held : Bool} {fuel : Nat} {t : TypeId} {ms : Array (String × TypeId)} {cs : List Value} {x : DataW H × List MemPlace}
 (ht : P.underlying t = some (.interface ms)) (h : DataW.trod enc P w base sp held fuel t cs = some x) : ∃ v, cs = [v] ∧ (v = .nilIface ∨ ∃ u y, v = .iface u y) := by
 cases fuel with
 | zero => simp [DataW.trod] at h
 | succ n =>
   unfold DataW.trod at h
   rw [ht] at h
   match cs, h with
   | [], h => simp at h
   | [v], h => cases v <;> first | exact ⟨_, rfl, .inl rfl⟩ | exact ⟨_, rfl, .inr ⟨_, _, rfl⟩⟩ | (simp at h)
   | a :: b :: r, h => simp at h
theorem z6Z {P : Program} {W : World} {x : String × DataW Unit} {rest : List (String × DataW Unit)} {ps : List MemPlace} (h : DataW.LaidVars P W (x :: rest) ps) : ∃ qs, DataW.LaidVars P W rest qs := by
 obtain ⟨_, _, _, _, _, q, _, _, _, _, hr, _⟩ := h
 exact ⟨q, hr⟩
theorem zKh {P : Program} {W : World} {name : String} {k : IntKind} {zs : List Int} {rest : List (String × DataW Unit)} {ps : List MemPlace} {g : Nat} {t e : TypeId} {n : Nat}
 (hg : P.globalNamed name = some g) (hty : (P.globals[g]?).map (·.type) = some t) (ht : P.underlying t = some (.array n e)) (he : P.underlying e = some (.int k)) (hce : P.cellsOf e = 1) (hct : P.cellsOf t = n)
 (h : DataW.LaidVars P W ((name, Lib.tabData k zs) :: rest) ps) : ∃ o, W.heap[g]? = some o ∧ zKd (zs.map fun z => Value.int k z).toArray o := by
 obtain ⟨g', t', cs, fuel, p, q, hg', ht', hvar, hd, _, _⟩ := h
 obtain rfl := Option.some.inj (hg.symm.trans hg')
 obtain rfl := Option.some.inj (hty.symm.trans ht')
 have hc := Lib.cells_of_tab ht he hce hct hd
 unfold World.var? at hvar
 rw [hg] at hvar
 simp only [Option.bind_some] at hvar
 split at hvar
 ·rename_i c ty fz hh
  cases hvar
  exact ⟨_, hh, ty, fz, by rw [← hc]⟩
 ·cases hvar
theorem zHg {P : Program} {W : World} {name : String} {d : DataW Unit} {rest : List (String × DataW Unit)} {ps : List MemPlace} {g : Nat} {t : TypeId} {ms : Array (String × TypeId)}
 (hg : P.globalNamed name = some g) (hty : (P.globals[g]?).map (·.type) = some t) (ht : P.underlying t = some (.interface ms))
 (h : DataW.LaidVars P W ((name, d) :: rest) ps) : ∃ o, W.heap[g]? = some o ∧ zIP o := by
 obtain ⟨g', t', cs, fuel, p, q, hg', ht', hvar, hd, _, _⟩ := h
 obtain rfl := Option.some.inj (hg.symm.trans hg')
 obtain rfl := Option.some.inj (hty.symm.trans ht')
 obtain ⟨v, hc, hv⟩ := zLA ht hd
 unfold World.var? at hvar
 rw [hg] at hvar
 simp only [Option.bind_some] at hvar
 split at hvar
 ·rename_i c ty fz hh
  cases hvar
  refine ⟨_, hh, v, _, ty, fz, rfl, ?_, hv⟩
  rw [← Array.getElem?_toList, hc]; rfl
 ·cases hvar
end Go.Own
namespace Go.Proofs.YtkogmjbmbpcbeaaGreatDoor
open Go Go.Own Go.ChangeShapes Go.WideShapes Go.ChangeAt Go.RowKit
theorem Tryz.own : ownKnob Tryz.prog.godebug = none := by kernel_rfl
theorem Tryz.laidOut : laidOutB Tryz.prog = true := by kernel_rfl
theorem gPow : Tryz.prog.globalNamed "internal/strconv.uint64pow10" = some 5 := by kernel_rfl
theorem gSyn : Tryz.prog.globalNamed "strconv.ErrSyntax" = some 3 := by kernel_rfl
theorem gRng : Tryz.prog.globalNamed "strconv.ErrRange" = some 4 := by kernel_rfl
theorem tPow : (Tryz.prog.globals[5]?).map (·.type) = some 168 := by kernel_rfl
theorem tSyn : (Tryz.prog.globals[3]?).map (·.type) = some 128 := by kernel_rfl
theorem tRng : (Tryz.prog.globals[4]?).map (·.type) = some 128 := by kernel_rfl
theorem uPow : ∃ e, Tryz.prog.underlying 168 = some (.array 20 e) ∧ Tryz.prog.underlying e = some (.int .u64) ∧ Tryz.prog.cellsOf e = 1 := ⟨152, by kernel_rfl, by kernel_rfl, by kernel_rfl⟩
def firstCells : Array Value := (Go.Pinned.utf8FirstZ.map fun n : Nat => Value.int .u8 (n : Int)).toArray
def zKM (cs : Array Value) : Obj → Obj
 | .cells _ t frozen => .cells cs t frozen
 | o => o
noncomputable def z8P (os : Os) : World :=
 { World.doorLaid Tryz.prog 400 os with heap := (World.doorLaid Tryz.prog 400 os).heap.modify 1 (zKM firstCells) }
theorem zKg (os : Os) (args : Array Value) : laidMetH Tryz.prog Rows.fnExactPutAnswerRow.laid ((z8P os).forCall (fun _ _ => 0) ⟨#[], args, []⟩).memory :=
 laidMet_of_run' 8 (by kernel_rfl) (by kernel_rfl)
theorem zMP {W : World} (h : W.ShapedOpen Tryz.prog) (hL : laidMetH Tryz.prog Rows.fnExactPutAnswerRow.laid W) : Glb.ok W.heap (fun b => b < W.heap.size) := by
 have hl : laidMet Tryz.prog Rows.fnExactPutAnswerRow.laid W := hL
 obtain ⟨ps, hv, _⟩ := hl
 obtain ⟨_, h2⟩ := z6Z hv
 obtain ⟨_, h3⟩ := z6Z h2
 obtain ⟨_, h4⟩ := z6Z h3
 obtain ⟨_, h5⟩ := z6Z h4
 obtain ⟨_, h6⟩ := z6Z h5
 obtain ⟨e, u1, u2, u3⟩ := uPow
 have hp := zKh (zs := Lib.pow10Tab) (k := .u64) gPow tPow u1 u2 u3 (by kernel_rfl) h3
 have hr := zHg gRng tRng Tryz.underlying128 h5
 have hs := zHg gSyn tSyn Tryz.underlying128 h6
 have hm := zIQ (Tryz.l146.s1_3 W h)
 intro x hx
 have lt : ∀ {g : Nat} {o : Obj}, W.heap[g]? = some o → g < W.heap.size := fun h => (Array.getElem?_eq_some_iff.1 h).1
 simp only [List.mem_cons, List.not_mem_nil, or_false] at hx
 rcases hx with rfl | rfl | rfl | rfl
 ·obtain ⟨o, h1, h2⟩ := hm; exact ⟨lt h1, o, h1, h2⟩
 ·obtain ⟨o, h1, h2⟩ := hs; exact ⟨lt h1, o, h1, h2⟩
 ·obtain ⟨o, h1, h2⟩ := hr; exact ⟨lt h1, o, h1, h2⟩
 ·obtain ⟨o, h1, h2⟩ := hp; exact ⟨lt h1, o, h1, h2⟩
end Go.Proofs.YtkogmjbmbpcbeaaGreatDoor
namespace Go.Proofs.YtkogmjbmbpcbeaaGreatDoor
open Go Go.Own Go.ChangeShapes Go.WideShapes Go.ChangeAt Go.RowKit
set_option maxRecDepth 100000 in
theorem zMV (os : Os) {H : Type} (enc : TypeId × Value → H) : ∃ x, DataW.whole enc Tryz.prog ((z8P os).forCall (fun _ _ => 0) ⟨#[], #[.agg #[.int .i64 0, .slice none 0 0], .string .empty, .int .i64 0, .int .i64 0], []⟩).memory Tryz.f4.params.toList Rows.fnExactPutNoneSpec.vars false (#[Value.agg #[.int .i64 0, .slice none 0 0], Value.string .empty, Value.int .i64 0, Value.int .i64 0] : Array Value).toList 8 = some x ∧
 (OpenSpec.ofChange Rows.fnExactPutNoneSpec).bare.sizedB enc Tryz.prog Tryz.f4 false ((z8P os).forCall (fun _ _ => 0) ⟨#[], #[.agg #[.int .i64 0, .slice none 0 0], .string .empty, .int .i64 0, .int .i64 0], []⟩).memory #[.agg #[.int .i64 0, .slice none 0 0], .string .empty, .int .i64 0, .int .i64 0] 8 = true :=
 ⟨_, (Option.some_get (by kernel_rfl)).symm, by kernel_rfl⟩
set_option maxRecDepth 100000 in
theorem row4 (os : Os) (started : os.Started) (H : Type) (enc : TypeId × Value → H) (F : Stop.Interp) :
 ReturnsInHanded {} Tryz.checked os 4 .any ((OpenSpec.ofChange Rows.fnExactPutNoneSpec).preRow enc Tryz.prog Tryz.f4 Rows.fnExactPutNoneRow.domain false Rows.fnExactPutNoneRow.laid) (((OpenSpec.ofChange Rows.fnExactPutNoneSpec).at F).post enc Tryz.prog Tryz.f4 false true false false) := by
 obtain ⟨x, hx, hz⟩ := zMV os enc
 refine returnsInHanded_of_row (C := Tryz.checked) (s := OpenSpec.ofChange Rows.fnExactPutNoneSpec) Tryz.own started (by kernel_rfl) Tryz.func4
  (witness_row_at (enc := enc) (C := Tryz.checked) false (z8P os) #[.agg #[.int .i64 0, .slice none 0 0], .string .empty, .int .i64 0, .int .i64 0] rfl (by kernel_rfl) (by kernel_rfl) (by kernel_rfl)
    (OpenSpec.preRow_of_cond 8 hx (by kernel_rfl) (fun k hk => by cases hk) hz (zKg os _))) ?_
 intro W base args ds gs before h1 h2 _ _ _ hL hsh _
 refine zLj (envC (fun _ => []) 0 [] []) Tryz.laidOut z6I rfl rfl rfl rfl ?_ ?_ ?_ rfl Tryz.underlying4 ?_ W base args ds gs before h1 h2 (zMP hsh hL)
 ·intro ds hl
  match ds, hl with
  | [d0, d1, d2, d3], _ => rfl
 ·intro t ht
  rw [Tryz.params4] at ht
  simp at ht
  rcases ht with rfl | rfl | rfl
  all_goals exact ⟨⟨by kernel_rfl, by kernel_rfl⟩, by kernel_rfl, of_decide_eq_true (by kernel_rfl)⟩
 ·rw [Tryz.params4]; kernel_rfl
 ·intro ds hl hw
  match ds, hl with
  | [d0, d1, d2, d3], _ => exact z8Q (WT.sm (hw 0 _ d0 rfl rfl)) (WT.sm (hw 1 _ d1 rfl rfl)) (WT.sm (hw 2 _ d2 rfl rfl)) (WT.sm (hw 3 _ d3 rfl rfl))
set_option maxRecDepth 100000 in
theorem zMf : Rows.FnExactPutNoneSaid :=
 OpenClaim.holds_of_cond 4 Tryz.f4 rfl rfl rfl rfl rfl rfl rfl ⟨rfl, rfl, rfl, rfl, rfl⟩ rfl rfl rfl rfl rfl (by kernel_rfl) Tryz.func4 (by kernel_rfl)
  (of_decide_eq_true (by kernel_rfl)) (by unfold Func.isWrapper; first | (rw [if_pos (by decide +kernel)]; kernel_rfl) | (rw [if_neg (by decide +kernel)]; exact ⟨rfl, rfl⟩))
  (fun os started H enc _ F => by rw [OpenClaim.pre_eq_preRow]; exact row4 os started H enc F)
theorem zMU (f : FuncId) (fn : Func) (hf : Tryz.pinned.checked.prog.funcNamed "loop.example/g00300/laws.FnExactPutNone" = some f) (hfn : Tryz.pinned.checked.prog.funcs[f]? = some fn) :
 true = Tryz.pinned.checked.prog.looks [] ∧ ∀ (j : Nat) t, fn.params[j]? = some t → Tryz.pinned.checked.prog.wantsStandIn t = false := by
 obtain rfl : f = 4 := Option.some.inj ((show Tryz.prog.funcNamed "loop.example/g00300/laws.FnExactPutNone" = some 4 by kernel_rfl).symm.trans hf) |>.symm
 obtain rfl : fn = Tryz.f4 := (Option.some.inj (Tryz.func4.symm.trans hfn)).symm
 refine ⟨by kernel_rfl, fun j t ht => ?_⟩
 have ht' := Array.mem_of_getElem? ht
 rw [Tryz.params4] at ht'
 simp at ht'
 rcases ht' with rfl | rfl | rfl
 all_goals exact (show Tryz.prog.wantsStandIn _ = false by kernel_rfl)
theorem fnExactPutNone_holds : Rows.FnExactPutNoneCardSaid :=
 Claim7.holds_tied_plain_at .later [] _ _ _ _ zMf (fun _ h => by cases h) (by kernel_rfl) (fun _ h => by cases h) fnExactPutNone_row_tie rfl ⟨rfl, rfl⟩ (by kernel_rfl) rfl zMU (by kernel_rfl)
end Go.Proofs.YtkogmjbmbpcbeaaGreatDoor
