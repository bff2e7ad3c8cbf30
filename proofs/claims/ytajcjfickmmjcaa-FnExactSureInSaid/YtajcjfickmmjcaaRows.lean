/-
  No cell of these rows narrows 'for every input' (looked for: loops, veiled, ifaces, maps, wideKeys, modest, calm, conditions, laid).
  DERIVED. THE GIVEN ROWS OF THIS SEAT. 9 by the template 'for every input the law returns true; each argument reads behind the call as it read before'; 0 by the template 'total and deterministic' (their statements: YtajcjfickmmjcaaTotals.lean).
  GIVEN WITH THE SEED: the statements are not yours to turn. If you find one false, say at which input.
  Laid BY PROGRAM, IN A SANDBOX (cutbox-rows.mjs): the forced cells as the released guide's own fill.sh prints them over the translation 17827a3534e3bfba… (all of the seat's roots in one cut). By AI agents, Wed Nov 11 2026. No macro, syntax, notation, axiom, sorry.
-/
import Derived.Test.YtajcjfickmmjcaaChecked
import GoSem.Claim
import GoSem.ClaimJoined
import GoSem.ClaimMapViews
import Derived.JoinedTies
import Derived.KernelRfl
namespace Go.Proofs.Ytajcjfickmmjcaa
/- THE CELL 'sum', in the pinned program and in every row, IS THE sha256 OF THE DUMP (.gsa) THAT YtajcjfickmmjcaaProg.lean LOADS. Nothing in Lean hashes anything: it is a label: what it is worth is what the hold of that sum in a sandbox is worth. -/
noncomputable def Try.pinned : Pinned := { name := "ytajcjfickmmjcaa", sum := "17827a3534e3bfba1cdbd55d0603b030773b30f8ebc2b57455152fd0c702c9e7", checked := Try.checked }
namespace Rows
def none {H : Type} : Left H := { results := [], args := [] }

/-- 'laws.FnExactNewChain': WHATEVER THE INPUT: true; the input reads as it did. -/
def fnExactNewChainSpec : ChangeSpec := { name := "fnExactNewChain", fn := fun _ => fun
  | [d] => { results := [.lit (.bool true)], args := [d] }
  | _ => none }
def fnExactNewChainRow : OpenClaim := { program := "ytajcjfickmmjcaa", sum := "17827a3534e3bfba1cdbd55d0603b030773b30f8ebc2b57455152fd0c702c9e7", func := "loop.example/g00300/laws.FnExactNewChain", spec := "fnExactNewChain", apart := false }
def FnExactNewChainSaid : Prop := fnExactNewChainRow.holds Try.pinned (OpenSpec.ofChange fnExactNewChainSpec)

/-- ITS FALSE NEIGHBOUR: 'it returns false'. Refute it at one input. -/
def fnExactNewChainWrong : ChangeSpec := { name := "fnExactNewChain", fn := fun _ => fun
  | [d] => { results := [.lit (.bool false)], args := [d] }
  | _ => none }
def FnExactNewChainWrongFalsely : Prop := fnExactNewChainRow.holds Try.pinned (OpenSpec.ofChange fnExactNewChainWrong)

/-- 'laws.FnExactGoodChain': WHATEVER THE INPUT: true; the input reads as it did. -/
def fnExactGoodChainSpec : ChangeSpec := { name := "fnExactGoodChain", fn := fun _ => fun
  | [d] => { results := [.lit (.bool true)], args := [d] }
  | _ => none }
def fnExactGoodChainRow : OpenClaim := { program := "ytajcjfickmmjcaa", sum := "17827a3534e3bfba1cdbd55d0603b030773b30f8ebc2b57455152fd0c702c9e7", func := "loop.example/g00300/laws.FnExactGoodChain", spec := "fnExactGoodChain", unfollowed := true, recurses := true, apart := false }
def FnExactGoodChainSaid : Prop := fnExactGoodChainRow.holds Try.pinned (OpenSpec.ofChange fnExactGoodChainSpec)

/-- ITS FALSE NEIGHBOUR: 'it returns false'. Refute it at one input. -/
def fnExactGoodChainWrong : ChangeSpec := { name := "fnExactGoodChain", fn := fun _ => fun
  | [d] => { results := [.lit (.bool false)], args := [d] }
  | _ => none }
def FnExactGoodChainWrongFalsely : Prop := fnExactGoodChainRow.holds Try.pinned (OpenSpec.ofChange fnExactGoodChainWrong)

/-- 'laws.FnExactReadTail': WHATEVER THE INPUT: true; the input reads as it did. -/
def fnExactReadTailSpec : ChangeSpec := { name := "fnExactReadTail", fn := fun _ => fun
  | [d] => { results := [.lit (.bool true)], args := [d] }
  | _ => none }
def fnExactReadTailRow : OpenClaim := { program := "ytajcjfickmmjcaa", sum := "17827a3534e3bfba1cdbd55d0603b030773b30f8ebc2b57455152fd0c702c9e7", func := "loop.example/g00300/laws.FnExactReadTail", spec := "fnExactReadTail", unfollowed := true, recurses := true, apart := false }
def FnExactReadTailSaid : Prop := fnExactReadTailRow.holds Try.pinned (OpenSpec.ofChange fnExactReadTailSpec)

/-- ITS FALSE NEIGHBOUR: 'it returns false'. Refute it at one input. -/
def fnExactReadTailWrong : ChangeSpec := { name := "fnExactReadTail", fn := fun _ => fun
  | [d] => { results := [.lit (.bool false)], args := [d] }
  | _ => none }
def FnExactReadTailWrongFalsely : Prop := fnExactReadTailRow.holds Try.pinned (OpenSpec.ofChange fnExactReadTailWrong)

/-- 'laws.FnExactSureIn': WHATEVER THE INPUT: true; the input reads as it did. -/
def fnExactSureInSpec : ChangeSpec := { name := "fnExactSureIn", fn := fun _ => fun
  | [d] => { results := [.lit (.bool true)], args := [d] }
  | _ => none }
def fnExactSureInRow : OpenClaim := { program := "ytajcjfickmmjcaa", sum := "17827a3534e3bfba1cdbd55d0603b030773b30f8ebc2b57455152fd0c702c9e7", func := "loop.example/g00300/laws.FnExactSureIn", spec := "fnExactSureIn", unfollowed := true, recurses := true, apart := false }
def FnExactSureInSaid : Prop := fnExactSureInRow.holds Try.pinned (OpenSpec.ofChange fnExactSureInSpec)

/-- ITS FALSE NEIGHBOUR: 'it returns false'. Refute it at one input. -/
def fnExactSureInWrong : ChangeSpec := { name := "fnExactSureIn", fn := fun _ => fun
  | [d] => { results := [.lit (.bool false)], args := [d] }
  | _ => none }
def FnExactSureInWrongFalsely : Prop := fnExactSureInRow.holds Try.pinned (OpenSpec.ofChange fnExactSureInWrong)

/-- 'laws.FnDrained': WHATEVER THE INPUT: true; the input reads as it did. -/
def fnDrainedSpec : ChangeSpec := { name := "fnDrained", fn := fun _ => fun
  | [d] => { results := [.lit (.bool true)], args := [d] }
  | _ => none }
def fnDrainedRow : OpenClaim := { program := "ytajcjfickmmjcaa", sum := "17827a3534e3bfba1cdbd55d0603b030773b30f8ebc2b57455152fd0c702c9e7", func := "loop.example/g00300/laws.FnDrained", spec := "fnDrained", unfollowed := true, recurses := true, apart := false }
def FnDrainedSaid : Prop := fnDrainedRow.holds Try.pinned (OpenSpec.ofChange fnDrainedSpec)

/-- ITS FALSE NEIGHBOUR: 'it returns false'. Refute it at one input. -/
def fnDrainedWrong : ChangeSpec := { name := "fnDrained", fn := fun _ => fun
  | [d] => { results := [.lit (.bool false)], args := [d] }
  | _ => none }
def FnDrainedWrongFalsely : Prop := fnDrainedRow.holds Try.pinned (OpenSpec.ofChange fnDrainedWrong)

/-- 'laws.FnExactPlayChain': WHATEVER THE INPUT: true; the input reads as it did. -/
def fnExactPlayChainSpec : ChangeSpec := { name := "fnExactPlayChain", fn := fun _ => fun
  | [d1, d2] => { results := [.lit (.bool true)], args := [d1, d2] }
  | _ => none }
def fnExactPlayChainRow : OpenClaim := { program := "ytajcjfickmmjcaa", sum := "17827a3534e3bfba1cdbd55d0603b030773b30f8ebc2b57455152fd0c702c9e7", func := "loop.example/g00300/laws.FnExactPlayChain", spec := "fnExactPlayChain", apart := false }
def FnExactPlayChainSaid : Prop := fnExactPlayChainRow.holds Try.pinned (OpenSpec.ofChange fnExactPlayChainSpec)

/-- ITS FALSE NEIGHBOUR: 'it returns false'. Refute it at one input. -/
def fnExactPlayChainWrong : ChangeSpec := { name := "fnExactPlayChain", fn := fun _ => fun
  | [d1, d2] => { results := [.lit (.bool false)], args := [d1, d2] }
  | _ => none }
def FnExactPlayChainWrongFalsely : Prop := fnExactPlayChainRow.holds Try.pinned (OpenSpec.ofChange fnExactPlayChainWrong)

/-- 'laws.FnExactDrainChain': WHATEVER THE INPUT: true; the input reads as it did. -/
def fnExactDrainChainSpec : ChangeSpec := { name := "fnExactDrainChain", fn := fun _ => fun
  | [d] => { results := [.lit (.bool true)], args := [d] }
  | _ => none }
def fnExactDrainChainRow : OpenClaim := { program := "ytajcjfickmmjcaa", sum := "17827a3534e3bfba1cdbd55d0603b030773b30f8ebc2b57455152fd0c702c9e7", func := "loop.example/g00300/laws.FnExactDrainChain", spec := "fnExactDrainChain", unfollowed := true, recurses := true, apart := false }
def FnExactDrainChainSaid : Prop := fnExactDrainChainRow.holds Try.pinned (OpenSpec.ofChange fnExactDrainChainSpec)

/-- ITS FALSE NEIGHBOUR: 'it returns false'. Refute it at one input. -/
def fnExactDrainChainWrong : ChangeSpec := { name := "fnExactDrainChain", fn := fun _ => fun
  | [d] => { results := [.lit (.bool false)], args := [d] }
  | _ => none }
def FnExactDrainChainWrongFalsely : Prop := fnExactDrainChainRow.holds Try.pinned (OpenSpec.ofChange fnExactDrainChainWrong)

/-- 'laws.FnChain': WHATEVER THE INPUT: true; the input reads as it did. -/
def fnChainSpec : ChangeSpec := { name := "fnChain", fn := fun _ => fun
  | [d1, d2] => { results := [.lit (.bool true)], args := [d1, d2] }
  | _ => none }
def fnChainRow : OpenClaim := { program := "ytajcjfickmmjcaa", sum := "17827a3534e3bfba1cdbd55d0603b030773b30f8ebc2b57455152fd0c702c9e7", func := "loop.example/g00300/laws.FnChain", spec := "fnChain", unfollowed := true, recurses := true, apart := false }
def FnChainSaid : Prop := fnChainRow.holds Try.pinned (OpenSpec.ofChange fnChainSpec)

/-- ITS FALSE NEIGHBOUR: 'it returns false'. Refute it at one input. -/
def fnChainWrong : ChangeSpec := { name := "fnChain", fn := fun _ => fun
  | [d1, d2] => { results := [.lit (.bool false)], args := [d1, d2] }
  | _ => none }
def FnChainWrongFalsely : Prop := fnChainRow.holds Try.pinned (OpenSpec.ofChange fnChainWrong)

/-- 'laws.FnExactStepChain': WHATEVER THE INPUT: true; the input reads as it did. -/
def fnExactStepChainSpec : ChangeSpec := { name := "fnExactStepChain", fn := fun _ => fun
  | [d1, d2] => { results := [.lit (.bool true)], args := [d1, d2] }
  | _ => none }
def fnExactStepChainRow : OpenClaim := { program := "ytajcjfickmmjcaa", sum := "17827a3534e3bfba1cdbd55d0603b030773b30f8ebc2b57455152fd0c702c9e7", func := "loop.example/g00300/laws.FnExactStepChain", spec := "fnExactStepChain", unfollowed := true, recurses := true, apart := false }
def FnExactStepChainSaid : Prop := fnExactStepChainRow.holds Try.pinned (OpenSpec.ofChange fnExactStepChainSpec)

/-- ITS FALSE NEIGHBOUR: 'it returns false'. Refute it at one input. -/
def fnExactStepChainWrong : ChangeSpec := { name := "fnExactStepChain", fn := fun _ => fun
  | [d1, d2] => { results := [.lit (.bool false)], args := [d1, d2] }
  | _ => none }
def FnExactStepChainWrongFalsely : Prop := fnExactStepChainRow.holds Try.pinned (OpenSpec.ofChange fnExactStepChainWrong)

/- THE SECOND FORM. 'bulk': how many values and letters a reading holds, each counted each time it is reached (what is shared counts as often as it is met; a slice's spare places count too). A statement '..UptoSaid' is the law's where the arguments, and the package variables that the reading takes, are together of bulk at most 1048576: NARROWER than '..Said'. Prove '..Said' where nothing that the law and all that it calls make is longer than what came in: it says more and counts as full. Else prove '..UptoSaid'. A law counts once. -/
mutual
def uptoBulk {H : Type} : DataW H → Nat
  | .lit (.string bytes) => bytes.length + 1
  | .lit _ => 1
  | .nil => 1
  | .ptr d => uptoBulk d + 1
  | .slice elems spare => uptoBulkAll elems + uptoBulkAll spare + 1
  | .agg parts => uptoBulkAll parts + 1
  | .iface _ d => uptoBulk d + 1
  | .map entries => uptoBulkEntries entries + 1
  | .held _ => 1
def uptoBulkAll {H : Type} : List (DataW H) → Nat
  | [] => 0
  | d :: r => uptoBulk d + uptoBulkAll r
def uptoBulkEntries {H : Type} : List (Lit × DataW H) → Nat
  | [] => 0
  | x :: r => uptoBulkEntry x + uptoBulkEntries r
def uptoBulkEntry {H : Type} : Lit × DataW H → Nat
  | (.string bytes, d) => bytes.length + uptoBulk d + 1
  | (_, d) => uptoBulk d + 1
 end
def uptoSmall : (H : Type) → List (DataW H) → Bool := fun _ ds => decide (uptoBulkAll ds ≤ 1048576)
def OpenSpec.upto (s : _root_.Go.ChangeSpec) : _root_.Go.OpenSpec := { _root_.Go.OpenSpec.ofChange s with cond := some uptoSmall }

/-- 'laws.FnExactNewChain', WHERE WHAT IT READS IS OF BULK AT MOST 1048576: true; the input reads as it did. -/
def fnExactNewChainUptoRow : OpenClaim := { program := "ytajcjfickmmjcaa", sum := "17827a3534e3bfba1cdbd55d0603b030773b30f8ebc2b57455152fd0c702c9e7", func := "loop.example/g00300/laws.FnExactNewChain", spec := "fnExactNewChain", apart := false, narrowed := true }
def FnExactNewChainUptoSaid : Prop := fnExactNewChainUptoRow.holds Try.pinned (OpenSpec.upto fnExactNewChainSpec)

/-- 'laws.FnExactGoodChain', WHERE WHAT IT READS IS OF BULK AT MOST 1048576: true; the input reads as it did. -/
def fnExactGoodChainUptoRow : OpenClaim := { program := "ytajcjfickmmjcaa", sum := "17827a3534e3bfba1cdbd55d0603b030773b30f8ebc2b57455152fd0c702c9e7", func := "loop.example/g00300/laws.FnExactGoodChain", spec := "fnExactGoodChain", unfollowed := true, recurses := true, apart := false, narrowed := true }
def FnExactGoodChainUptoSaid : Prop := fnExactGoodChainUptoRow.holds Try.pinned (OpenSpec.upto fnExactGoodChainSpec)

/-- 'laws.FnExactReadTail', WHERE WHAT IT READS IS OF BULK AT MOST 1048576: true; the input reads as it did. -/
def fnExactReadTailUptoRow : OpenClaim := { program := "ytajcjfickmmjcaa", sum := "17827a3534e3bfba1cdbd55d0603b030773b30f8ebc2b57455152fd0c702c9e7", func := "loop.example/g00300/laws.FnExactReadTail", spec := "fnExactReadTail", unfollowed := true, recurses := true, apart := false, narrowed := true }
def FnExactReadTailUptoSaid : Prop := fnExactReadTailUptoRow.holds Try.pinned (OpenSpec.upto fnExactReadTailSpec)

/-- 'laws.FnExactSureIn', WHERE WHAT IT READS IS OF BULK AT MOST 1048576: true; the input reads as it did. -/
def fnExactSureInUptoRow : OpenClaim := { program := "ytajcjfickmmjcaa", sum := "17827a3534e3bfba1cdbd55d0603b030773b30f8ebc2b57455152fd0c702c9e7", func := "loop.example/g00300/laws.FnExactSureIn", spec := "fnExactSureIn", unfollowed := true, recurses := true, apart := false, narrowed := true }
def FnExactSureInUptoSaid : Prop := fnExactSureInUptoRow.holds Try.pinned (OpenSpec.upto fnExactSureInSpec)

/-- 'laws.FnDrained', WHERE WHAT IT READS IS OF BULK AT MOST 1048576: true; the input reads as it did. -/
def fnDrainedUptoRow : OpenClaim := { program := "ytajcjfickmmjcaa", sum := "17827a3534e3bfba1cdbd55d0603b030773b30f8ebc2b57455152fd0c702c9e7", func := "loop.example/g00300/laws.FnDrained", spec := "fnDrained", unfollowed := true, recurses := true, apart := false, narrowed := true }
def FnDrainedUptoSaid : Prop := fnDrainedUptoRow.holds Try.pinned (OpenSpec.upto fnDrainedSpec)

/-- 'laws.FnExactPlayChain', WHERE WHAT IT READS IS OF BULK AT MOST 1048576: true; the input reads as it did. -/
def fnExactPlayChainUptoRow : OpenClaim := { program := "ytajcjfickmmjcaa", sum := "17827a3534e3bfba1cdbd55d0603b030773b30f8ebc2b57455152fd0c702c9e7", func := "loop.example/g00300/laws.FnExactPlayChain", spec := "fnExactPlayChain", apart := false, narrowed := true }
def FnExactPlayChainUptoSaid : Prop := fnExactPlayChainUptoRow.holds Try.pinned (OpenSpec.upto fnExactPlayChainSpec)

/-- 'laws.FnExactDrainChain', WHERE WHAT IT READS IS OF BULK AT MOST 1048576: true; the input reads as it did. -/
def fnExactDrainChainUptoRow : OpenClaim := { program := "ytajcjfickmmjcaa", sum := "17827a3534e3bfba1cdbd55d0603b030773b30f8ebc2b57455152fd0c702c9e7", func := "loop.example/g00300/laws.FnExactDrainChain", spec := "fnExactDrainChain", unfollowed := true, recurses := true, apart := false, narrowed := true }
def FnExactDrainChainUptoSaid : Prop := fnExactDrainChainUptoRow.holds Try.pinned (OpenSpec.upto fnExactDrainChainSpec)

/-- 'laws.FnChain', WHERE WHAT IT READS IS OF BULK AT MOST 1048576: true; the input reads as it did. -/
def fnChainUptoRow : OpenClaim := { program := "ytajcjfickmmjcaa", sum := "17827a3534e3bfba1cdbd55d0603b030773b30f8ebc2b57455152fd0c702c9e7", func := "loop.example/g00300/laws.FnChain", spec := "fnChain", unfollowed := true, recurses := true, apart := false, narrowed := true }
def FnChainUptoSaid : Prop := fnChainUptoRow.holds Try.pinned (OpenSpec.upto fnChainSpec)

/-- 'laws.FnExactStepChain', WHERE WHAT IT READS IS OF BULK AT MOST 1048576: true; the input reads as it did. -/
def fnExactStepChainUptoRow : OpenClaim := { program := "ytajcjfickmmjcaa", sum := "17827a3534e3bfba1cdbd55d0603b030773b30f8ebc2b57455152fd0c702c9e7", func := "loop.example/g00300/laws.FnExactStepChain", spec := "fnExactStepChain", unfollowed := true, recurses := true, apart := false, narrowed := true }
def FnExactStepChainUptoSaid : Prop := fnExactStepChainUptoRow.holds Try.pinned (OpenSpec.upto fnExactStepChainSpec)

end Rows
end Go.Proofs.Ytajcjfickmmjcaa
