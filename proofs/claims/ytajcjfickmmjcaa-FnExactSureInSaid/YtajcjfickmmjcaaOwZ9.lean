/- A layer over the walk: what lies in memory as plain data, each operation by what it does to data; part 42. -/
import Derived.Test.YtajcjfickmmjcaaOwZ8
import Derived.Below
import Derived.ProofKit
set_option linter.unusedVariables false
set_option linter.unusedSimpArgs false
namespace Go.Own
open Go Go.RowKit Go.ChangeShapes Go.WideShapes Go.ChangeAt

/-- a law that holds: it returns true, and what lay in memory lies there still -/
theorem Valid.law {P : Program} {f : FuncId} {as : List Arg} {vs : List Value} {w : World} {O : List D} (hv : Valid P f as (fun r o => r = .one .bool (.bool true) ∧ o = O)) (hl : vs.length = as.length)
    (ha : ∀ (i : Nat) a v, as[i]? = some a → vs[i]? = some v → ArgV w.heap (fun _ => False) a .leaf v) :
    Calls P f vs.toArray w fun e w' => e = .returned (.bool true) ∧ Below w.heap.size w w' := by
  refine (hv w (fun _ => False) (fun _ => .leaf) vs ⟨hl, ha, by simp [K.blocks], by simp [K.blocks], by simp [K.blocks], by simp⟩).mono ?_
  rintro e w' ⟨res, outs, κr, κo, V', v, ⟨rfl, _⟩, rfl, hp⟩
  obtain ⟨cs, ⟨b, hb, _, rfl⟩, e⟩ := hp.res
  cases hb
  exact ⟨by rw [e]; rfl, ⟨hp.same.os, hp.same.tape, hp.same.output, hp.size, fun b hb => hp.frame b hb (by simp [K.blocks])⟩⟩

theorem arg_int {h : Heap} {V : Nat → Prop} {k : IntKind} {n : Int} (hn : (Lit.int k n).wf = true) : ArgV h V ⟨.vw, .int k, .int n⟩ .leaf (.int k n) := by
  simp only [Lit.wf, Bool.and_eq_true, decide_eq_true_eq] at hn
  exact ⟨rfl, _, ⟨n, rfl, rfl, rfl, hn⟩, rfl⟩

theorem arg_str {h : Heap} {V : Nat → Prop} {s : ByteArray} (hs : s.size ≤ maxLen) : ArgV h V ⟨.vw, .str, .str s.data.toList⟩ .leaf (.string s) :=
  ⟨rfl, _, ⟨s.data.toList, rfl, rfl, rfl, Nat.le_trans (by rw [Array.length_toList]; exact hs) (show maxLen ≤ smax by decide)⟩, by simp [toVal]⟩

variable {H : Type} {enc : TypeId × Value → H} {P : Program}

/-- the row's end, where no argument is a place -/
theorem post_flat {f : Func} {s : ChangeSpec} {apart fresh handsOn again : Bool} {W W' : World} {args : Array Value} {v : Value} {ds gs : List (DataW H)}
    (hW : DataW.Whole enc P f.params.toList s.vars apart W args.toList ds gs [])
    (hres : ∀ (b : Nat) (sp : Nat → Bool) (hd : Bool), DataW.TrodAll enc P W' b sp hd f.resultTypes.toList (v.resultList f.resultTypes.size) (s.fn H (ds ++ gs)).results [])
    (hargs : ∀ sp : Nat → Bool, DataW.TrodAll enc P W' 0 sp true f.params.toList args.toList (s.fn H (ds ++ gs)).args [])
    (hvars : ∀ sp : Nat → Bool, DataW.TrodVars enc P W' sp s.vars (s.fn H (ds ++ gs)).vars [])
    (hk : Below W.heap.size W W')
    (hok : ∀ (j : Nat) (t : TypeId) (r : Value), f.resultTypes[j]? = some t → (v.resultList f.resultTypes.size)[j]? = some r → Value.okWide P W' .any 0 t r) :
    s.post enc P f apart fresh handsOn again W args v W' := by
  refine ⟨ds, gs, [], [], [], [], hW, hres _ _ _, hargs _, hvars _, hk.frame _, fun _ => ⟨hok, (s.fn H (ds ++ gs)).results ++ (s.fn H (ds ++ gs)).args, _, [], ⟨[], [], ?_, hvars _, rfl, ?_, by simp⟩, by simp⟩⟩
  · exact trodAll_append (hargs (fun _ => true)) (hres 0 (fun _ => true) true)
  · intro b off hp; simp at hp

end Go.Own

namespace Go.Own
open Go
/-- a call that gives one thing -/
theorem VX.one {P : Program} {g : FuncId} {as : List Arg} {R : Res} {K : Res → List D → Prop} (hc : Callable P g) (hv : Valid P g as (fun r _ => r = R)) (h : ∀ o, K R o) :
    ∃ Post, VX P g as Post ∧ (∃ r o, Post r o) ∧ ∀ r o, Post r o → K r o :=
  ⟨_, ⟨hc, hv⟩, ⟨R, [], rfl⟩, fun r o e => e ▸ h o⟩
theorem VX.both {P : Program} {g : FuncId} {as : List Arg} {R : Res} {O : List D} {K : Res → List D → Prop} (hc : Callable P g) (hv : Valid P g as (fun r o => r = R ∧ o = O)) (h : K R O) :
    ∃ Post, VX P g as Post ∧ (∃ r o, Post r o) ∧ ∀ r o, Post r o → K r o :=
  ⟨_, ⟨hc, hv⟩, ⟨R, O, rfl, rfl⟩, fun r o e => by obtain ⟨rfl, rfl⟩ := e; exact h⟩
@[simp] theorem i64_min : IntKind.min .i64 = -9223372036854775808 := by decide
@[simp] theorem i64_max : IntKind.max .i64 = 9223372036854775807 := by decide
end Go.Own
