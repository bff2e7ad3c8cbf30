/- FnExactNewChain returns true at every input, and the input reads as it did; no condition. -/
import Derived.Test.YtajcjfickmmjcaaCh
import Derived.Test.YtajcjfickmmjcaaRows
import Derived.ProofKit
import Derived.KernelRfl
set_option linter.unusedVariables false
set_option linter.unusedSimpArgs false
namespace Go.Proofs.Ytajcjfickmmjcaa
open Go Go.Own

theorem pre_zlink (m : Nat) : ∀ i, pre (List.replicate m zlink) i = 2 * i
  | 0 => rfl
  | i + 1 => by
    have h : (log ((List.replicate m zlink).getD i .unit)).length = 0 := by
      rw [List.getD_eq_getElem?_getD, List.getElem?_replicate]
      split <;> rfl
    simp only [pre, pre_zlink m i, h]; omega

theorem newD_is (n : Int) : ∃ ls b, newD n = .pair (.pair (.lst ls) .unit) (.pair (.bool b) .unit) ∧ pre ls ls.length ≤ 1000 := by
  unfold newD
  split
  · exact ⟨_, _, rfl, by rw [pre_zlink, List.length_replicate]; omega⟩
  · exact ⟨_, _, rfl, by simp [pre]⟩

set_option maxHeartbeats 4000000 in
theorem v3 (n : Int) : Gives Try.prog 3 [⟨.vw, .int .i64, .int n⟩] (.one .bool (.bool true)) [.unit] := by
  obtain ⟨ls, b, hd, hb⟩ := newD_is n
  have h12 := v12 n
  have h13 := v13 n
  rw [hd] at h12 h13
  have h15 := v15 ls 1 (by omega)
  have h16 := v16 ls 1 (by omega)
  have h14 := v14 ls
  have h14' := v14 (mkLs 1 ls ls.length)
  have hn : ¬ ((1 : Int) + pre ls ls.length < 0) := by omega
  simp only [Int.natCast_one] at h15 h16
  refine Valid.of (Γc_ok 63 []) Try.func3 rfl rfl (Nat.le_of_ble_eq_true rfl) (by simp) (by intro i a h; rcases i with _ | i <;> simp at h; subst h; simp) fun E => ?_
  rw [start_of]
  repeat' first
    | refine Ex.seq ?_
    | refine Ex.ops (Γc_ok _ _) ?_
    | refine Ex.opsAny (Γc_ok _ _) (by kernel_rfl) ?_
    | (refine opsL_cons ?_; simp [hn])
    | (refine opsE_cons ?_; simp [hn])
    | refine opsL_nil ?_
    | refine opsE_nil (by kernel_rfl) ?_
    | refine Ex.ret ?_
    | refine Ex.skip ?_
    | refine Ex.exit ?_
    | (refine Ex.cond ?_; simp [hn])
    | refine Ex.block ?_
    | (refine VX.both c12 h12 ?_; simp [hn])
    | (refine VX.gives1 c12 h12 ?_; simp [hn])
    | (refine VX.gives c12 h12 ?_; simp [hn])
    | (refine VX.both c13 h13 ?_; simp [hn])
    | (refine VX.gives1 c13 h13 ?_; simp [hn])
    | (refine VX.gives c13 h13 ?_; simp [hn])
    | (refine VX.both c14 h14 ?_; simp [hn])
    | (refine VX.gives1 c14 h14 ?_; simp [hn])
    | (refine VX.gives c14 h14 ?_; simp [hn])
    | (refine VX.both c15 h15 ?_; simp [hn])
    | (refine VX.gives1 c15 h15 ?_; simp [hn])
    | (refine VX.gives c15 h15 ?_; simp [hn])
    | (refine VX.both c16 h16 ?_; simp [hn])
    | (refine VX.gives1 c16 h16 ?_; simp [hn])
    | (refine VX.gives c16 h16 ?_; simp [hn])
  simp [done, fin, Try.f3]
end Go.Proofs.Ytajcjfickmmjcaa

namespace Go.Proofs.Ytajcjfickmmjcaa
open Go Go.Own Go.ChangeShapes Go.WideShapes Go.ChangeAt Go.RowKit
theorem Try.own : ownKnob Try.prog.godebug = none := by kernel_rfl
theorem Try.laidOut : laidOutB Try.prog = true := by kernel_rfl

set_option maxRecDepth 100000 in
theorem newChain_lifted (os : Os) (started : os.Started) (H : Type) (enc : TypeId × Value → H) :
    ReturnsInHanded {} Try.checked os 3 .any (Rows.fnExactNewChainSpec.pre6 enc Try.prog Try.f3 Rows.fnExactNewChainRow.domain false) (Rows.fnExactNewChainSpec.post enc Try.prog Try.f3 false true false false) := by
  refine returnsInHanded_of_change (C := Try.checked) Try.own started (by kernel_rfl) Try.func3
    (ChangeSpec.witness6 (enc := enc) (C := Try.checked) false ⟨#[], #[.int .i64 0], []⟩ 8 (by kernel_rfl) (by kernel_rfl) (by kernel_rfl) (by kernel_rfl)) ?_
  intro W base args ds gs before hval0 hW hcnd _
  have hval : ∀ (j : Nat) t v, Try.f3.params[j]? = some t → args[j]? = some v → Value.okWide Try.prog W .any base t v := hval0
  have hW' := hW
  obtain ⟨p, q, hA0, hV, rfl, hfz, hnd⟩ := hW
  have hA : DataW.TrodAll enc Try.prog W 0 (fun _ => true) true Try.f3.params.toList args.toList ds p := hA0
  rw [Try.params3] at hA hval
  obtain ⟨v0, d0, rfl, rfl, h0⟩ := trodAll_one hA
  obtain ⟨rfl, rfl⟩ := trodVars_none hV
  obtain ⟨a, rfl, rfl, rfl, wa⟩ := open_int Try.underlying3 (hval 0 3 v0 rfl rfl) h0
  clear hA0 hval0
  simp only [List.append_nil] at hW'
  have hc := (v3 a).law (vs := [.int .i64 a]) (w := W) rfl (by
    intro i x v h1 h2
    rcases i with _ | i
    · simp at h1 h2; subst h1; subst h2; exact arg_int wa
    · simp at h1)
  refine hc.mono fun e W' ⟨he, hw⟩ => ?_
  subst he
  exact ⟨_, rfl, post_flat hW' (fun _ _ _ => trodAll_mk1 (shut_bool Try.underlying4 true)) (fun _ => trodAll_mk1 (shut_int Try.underlying3 wa)) (fun _ => rfl) hw (ok_one (by kernel_rfl) rfl (okWide_bool_mk Try.underlying4 true))⟩

theorem newChain_holds : Rows.FnExactNewChainSaid :=
  OpenClaim.holds_of_wide 3 Try.f3 rfl rfl rfl rfl rfl rfl rfl ⟨rfl, rfl, rfl, rfl, rfl⟩ rfl rfl rfl rfl rfl (by kernel_rfl) Try.func3 (by kernel_rfl)
    (of_decide_eq_true (by kernel_rfl)) (by unfold Func.isWrapper; first | (rw [if_pos (by decide +kernel)]; kernel_rfl) | (rw [if_neg (by decide +kernel)]; exact ⟨rfl, rfl⟩))
    (fun os started H enc _ => newChain_lifted os started H enc)
end Go.Proofs.Ytajcjfickmmjcaa
