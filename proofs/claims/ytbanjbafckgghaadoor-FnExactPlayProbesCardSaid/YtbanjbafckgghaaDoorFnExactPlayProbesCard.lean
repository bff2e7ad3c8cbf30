/- laws.FnExactPlayProbes gives true at every input, and each argument reads afterwards as it read before. The two listed tables of unicode/utf8 hold what the program's text lays: the given tie pays that. -/
import Derived.Test.YtbanjbafckgghaaDoorP4
import Derived.Test.YtbanjbafckgghaaDoorCards
import Derived.Test.YtbanjbafckgghaaDoorTie
import Derived.Deep.DeepHandedRow
import Derived.HandedShaped
set_option linter.unusedSectionVars false
set_option linter.unusedVariables false
set_option linter.unusedSimpArgs false
namespace Go.Proofs.YtbanjbafckgghaaDoor
open Go Go.Own Go.ChangeShapes Go.WideShapes Go.ChangeAt Go.RowKit
theorem Tryd.own : ownKnob Tryd.prog.godebug = none := by kernel_rfl
theorem Tryd.laidOut : laidOutB Tryd.prog = true := by kernel_rfl
theorem gFirst : Tryd.prog.globalNamed "unicode/utf8.first" = some 1 := by kernel_rfl
theorem gRanges : Tryd.prog.globalNamed "unicode/utf8.acceptRanges" = some 2 := by kernel_rfl
theorem gMax : Tryd.prog.globalNamed "internal/bytealg.MaxLen" = some 0 := by kernel_rfl

/-- a world for the witness: the settled one, the two listed tables holding what they are said to hold -/
def firstCells : Array Value := (Go.Pinned.utf8FirstZ.map fun n : Nat => Value.int .u8 (n : Int)).toArray
def rangeCells : Array Value := #[.int .u8 128, .int .u8 191, .int .u8 160, .int .u8 191, .int .u8 128, .int .u8 159, .int .u8 144, .int .u8 191, .int .u8 128, .int .u8 143, .int .u8 0, .int .u8 0, .int .u8 0, .int .u8 0, .int .u8 0, .int .u8 0, .int .u8 0, .int .u8 0, .int .u8 0, .int .u8 0, .int .u8 0, .int .u8 0, .int .u8 0, .int .u8 0, .int .u8 0, .int .u8 0, .int .u8 0, .int .u8 0, .int .u8 0, .int .u8 0, .int .u8 0, .int .u8 0]
def withCells (cs : Array Value) : Obj → Obj
  | .cells _ t frozen => .cells cs t frozen
  | o => o
noncomputable def laidWorld (os : Os) : World :=
  { World.holding Tryd.prog os ⟨#[], #[], []⟩ with heap := ((World.holding Tryd.prog os ⟨#[], #[], []⟩).heap.modify 1 (withCells firstCells)).modify 2 (withCells rangeCells) }
theorem laid_met (os : Os) (args : Array Value) : laidMet Tryd.prog Rows.fnRowsRow.laid ((laidWorld os).forCall (fun _ _ => 0) ⟨#[], args, []⟩).memory :=
  laidMet_of_run' 8 (by kernel_rfl) (by kernel_rfl)
theorem glb_ok {W : World} (h : W.ShapedOpen Tryd.prog) : Glb.ok W.heap (fun b => b < W.heap.size) := by
  intro x hx
  obtain rfl : x = (0, isInt .i64) := by simpa using hx
  obtain ⟨o, h1, h2⟩ := isInt_cell (Tryd.l146.s1_3 W h)
  exact ⟨(Array.getElem?_eq_some_iff.1 h1).1, o, h1, h2⟩
end Go.Proofs.YtbanjbafckgghaaDoor

namespace Go.Proofs.YtbanjbafckgghaaDoor
open Go Go.Own Go.ChangeShapes Go.WideShapes Go.ChangeAt Go.RowKit

set_option maxRecDepth 100000 in
theorem reads6 (os : Os) {H : Type} (enc : TypeId × Value → H) : ∃ x, DataW.whole enc Tryd.prog ((laidWorld os).forCall (fun _ _ => 0) ⟨#[], #[.int .i64 0, .int .i64 0, .slice none 0 0, .slice none 0 0], []⟩).memory Tryd.f6.params.toList Rows.fnExactPlayProbesSpec.vars false (#[Value.int .i64 0, Value.int .i64 0, Value.slice none 0 0, Value.slice none 0 0] : Array Value).toList 8 = some x ∧
    (OpenSpec.ofChange Rows.fnExactPlayProbesSpec).bare.sizedB enc Tryd.prog Tryd.f6 false ((laidWorld os).forCall (fun _ _ => 0) ⟨#[], #[.int .i64 0, .int .i64 0, .slice none 0 0, .slice none 0 0], []⟩).memory #[.int .i64 0, .int .i64 0, .slice none 0 0, .slice none 0 0] 8 = true :=
  ⟨_, (Option.some_get (by kernel_rfl)).symm, by kernel_rfl⟩

set_option maxRecDepth 100000 in
theorem row6 (os : Os) (started : os.Started) (H : Type) (enc : TypeId × Value → H) (F : Stop.Interp) :
    ReturnsInHanded {} Tryd.checked os 6 .any ((OpenSpec.ofChange Rows.fnExactPlayProbesSpec).preRow enc Tryd.prog Tryd.f6 Rows.fnExactPlayProbesRow.domain false Rows.fnExactPlayProbesRow.laid) (((OpenSpec.ofChange Rows.fnExactPlayProbesSpec).at F).post enc Tryd.prog Tryd.f6 false true false false) := by
  obtain ⟨x, hx, hz⟩ := reads6 os enc
  refine returnsInHanded_of_row (C := Tryd.checked) (s := OpenSpec.ofChange Rows.fnExactPlayProbesSpec) Tryd.own started (by kernel_rfl) Tryd.func6
    (witness_row_at (enc := enc) (C := Tryd.checked) false (laidWorld os) #[.int .i64 0, .int .i64 0, .slice none 0 0, .slice none 0 0] rfl (by kernel_rfl) (by kernel_rfl) (by kernel_rfl)
      (OpenSpec.preRow_of_cond 8 hx (by kernel_rfl) (fun k hk => by cases hk) hz (laid_met os _))) ?_
  intro W base args ds gs before h1 h2 _ _ _ _ hsh _
  refine law_row (envC (fun _ => []) 0 [] []) Tryd.laidOut ok_laws_FnExactPlayProbes rfl rfl rfl rfl ?_ ?_ ?_ rfl Tryd.underlying4 ?_ W base args ds gs before h1 h2 (glb_ok hsh)
  · intro ds hl
    match ds, hl with
    | [d0, d1, d2, d3], _ => rfl
  · intro t ht
    rw [Tryd.params6] at ht
    simp at ht
    rcases ht with rfl | rfl | rfl
    all_goals exact ⟨⟨by kernel_rfl, by kernel_rfl⟩, by kernel_rfl, of_decide_eq_true (by kernel_rfl)⟩
  · rw [Tryd.params6]; kernel_rfl
  · intro ds hl hw
    match ds, hl with
    | [d0, d1, d2, d3], _ => exact law_FnExactPlayProbes (WT.sm (hw 0 _ d0 rfl rfl)) (WT.sm (hw 1 _ d1 rfl rfl)) (WT.sm (hw 2 _ d2 rfl rfl)) (WT.sm (hw 3 _ d3 rfl rfl))

set_option maxRecDepth 100000 in
theorem said6 : Rows.FnExactPlayProbesSaid :=
  OpenClaim.holds_of_cond 6 Tryd.f6 rfl rfl rfl rfl rfl rfl rfl ⟨rfl, rfl, rfl, rfl, rfl⟩ rfl rfl rfl rfl rfl (by kernel_rfl) Tryd.func6 (by kernel_rfl)
    (of_decide_eq_true (by kernel_rfl)) (by unfold Func.isWrapper; first | (rw [if_pos (by decide +kernel)]; kernel_rfl) | (rw [if_neg (by decide +kernel)]; exact ⟨rfl, rfl⟩))
    (fun os started H enc _ F => by rw [OpenClaim.pre_eq_preRow]; exact row6 os started H enc F)

theorem plain6 (f : FuncId) (fn : Func) (hf : Tryd.pinned.checked.prog.funcNamed "loop.example/g00300/laws.FnExactPlayProbes" = some f) (hfn : Tryd.pinned.checked.prog.funcs[f]? = some fn) :
    false = Tryd.pinned.checked.prog.looks [] ∧ ∀ (j : Nat) t, fn.params[j]? = some t → Tryd.pinned.checked.prog.wantsStandIn t = false := by
  obtain rfl : f = 6 := Option.some.inj ((show Tryd.prog.funcNamed "loop.example/g00300/laws.FnExactPlayProbes" = some 6 by kernel_rfl).symm.trans hf) |>.symm
  obtain rfl : fn = Tryd.f6 := (Option.some.inj (Tryd.func6.symm.trans hfn)).symm
  refine ⟨by kernel_rfl, fun j t ht => ?_⟩
  have ht' := Array.mem_of_getElem? ht
  rw [Tryd.params6] at ht'
  simp at ht'
  rcases ht' with rfl | rfl | rfl
  all_goals exact (show Tryd.prog.wantsStandIn _ = false by kernel_rfl)

/-- the card of laws.FnExactPlayProbes -/
theorem fnExactPlayProbes_holds : Rows.FnExactPlayProbesCardSaid :=
  Claim7.holds_tied_plain_at .later [] _ _ _ _ said6 (fun _ h => by cases h) (by kernel_rfl) (fun _ h => by cases h) fnExactPlayProbes_row_tie rfl ⟨rfl, rfl⟩ (by kernel_rfl) rfl plain6 (by kernel_rfl)
end Go.Proofs.YtbanjbafckgghaaDoor
