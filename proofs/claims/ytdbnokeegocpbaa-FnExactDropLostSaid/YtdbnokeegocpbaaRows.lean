/-
  No cell of these rows narrows 'for every input' (looked for: loops, veiled, ifaces, maps, wideKeys, modest, calm, conditions, laid).
  DERIVED. THE GIVEN ROWS OF THIS SEAT. 10 by the template 'for every input the law returns true; each argument reads behind the call as it read before'; 0 by the template 'total and deterministic' (their statements: YtdbnokeegocpbaaTotals.lean).
  GIVEN WITH THE SEED: the statements are not yours to turn. If you find one false, say at which input.
  Laid BY PROGRAM, IN A SANDBOX (cutbox-rows.mjs): the forced cells as the released guide's own fill.sh prints them over the translation 81f07a93c7ef4ac2… (all of the seat's roots in one cut). By AI agents, Wed Nov 11 2026. No macro, syntax, notation, axiom, sorry.
-/
import Derived.Test.YtdbnokeegocpbaaChecked
import GoSem.Claim
import GoSem.ClaimJoined
import GoSem.ClaimMapViews
import Derived.JoinedTies
import Derived.KernelRfl
namespace Go.Proofs.Ytdbnokeegocpbaa
/- THE CELL 'sum', in the pinned program and in every row, IS THE sha256 OF THE DUMP (.gsa) THAT YtdbnokeegocpbaaProg.lean LOADS. Nothing in Lean hashes anything: it is a label: what it is worth is what the hold of that sum in a sandbox is worth. -/
noncomputable def Try.pinned : Pinned := { name := "ytdbnokeegocpbaa", sum := "81f07a93c7ef4ac2cefac0907c0a1af715fd55c10a0bd6692d40bb5aeee8e6a1", checked := Try.checked }
namespace Rows
def none {H : Type} : Left H := { results := [], args := [] }

/-- 'laws.FnExactDropLost': WHATEVER THE INPUT: true; the input reads as it did. -/
def fnExactDropLostSpec : ChangeSpec := { name := "fnExactDropLost", fn := fun _ => fun
  | [d] => { results := [.lit (.bool true)], args := [d] }
  | _ => none }
def fnExactDropLostRow : OpenClaim := { program := "ytdbnokeegocpbaa", sum := "81f07a93c7ef4ac2cefac0907c0a1af715fd55c10a0bd6692d40bb5aeee8e6a1", func := "loop.example/g00350/laws.FnExactDropLost", spec := "fnExactDropLost", unfollowed := true, recurses := true, apart := false }
def FnExactDropLostSaid : Prop := fnExactDropLostRow.holds Try.pinned (OpenSpec.ofChange fnExactDropLostSpec)

/-- ITS FALSE NEIGHBOUR: 'it returns false'. Refute it at one input. -/
def fnExactDropLostWrong : ChangeSpec := { name := "fnExactDropLost", fn := fun _ => fun
  | [d] => { results := [.lit (.bool false)], args := [d] }
  | _ => none }
def FnExactDropLostWrongFalsely : Prop := fnExactDropLostRow.holds Try.pinned (OpenSpec.ofChange fnExactDropLostWrong)

/-- 'laws.FnExactBackStep': WHATEVER THE INPUT: true; the input reads as it did. -/
def fnExactBackStepSpec : ChangeSpec := { name := "fnExactBackStep", fn := fun _ => fun
  | [d1, d2] => { results := [.lit (.bool true)], args := [d1, d2] }
  | _ => none }
def fnExactBackStepRow : OpenClaim := { program := "ytdbnokeegocpbaa", sum := "81f07a93c7ef4ac2cefac0907c0a1af715fd55c10a0bd6692d40bb5aeee8e6a1", func := "loop.example/g00350/laws.FnExactBackStep", spec := "fnExactBackStep", unfollowed := true, recurses := true, apart := false }
def FnExactBackStepSaid : Prop := fnExactBackStepRow.holds Try.pinned (OpenSpec.ofChange fnExactBackStepSpec)

/-- ITS FALSE NEIGHBOUR: 'it returns false'. Refute it at one input. -/
def fnExactBackStepWrong : ChangeSpec := { name := "fnExactBackStep", fn := fun _ => fun
  | [d1, d2] => { results := [.lit (.bool false)], args := [d1, d2] }
  | _ => none }
def FnExactBackStepWrongFalsely : Prop := fnExactBackStepRow.holds Try.pinned (OpenSpec.ofChange fnExactBackStepWrong)

/-- 'laws.FnExactPlainLive': WHATEVER THE INPUT: true; the input reads as it did. -/
def fnExactPlainLiveSpec : ChangeSpec := { name := "fnExactPlainLive", fn := fun _ => fun
  | [d] => { results := [.lit (.bool true)], args := [d] }
  | _ => none }
def fnExactPlainLiveRow : OpenClaim := { program := "ytdbnokeegocpbaa", sum := "81f07a93c7ef4ac2cefac0907c0a1af715fd55c10a0bd6692d40bb5aeee8e6a1", func := "loop.example/g00350/laws.FnExactPlainLive", spec := "fnExactPlainLive", unfollowed := true, recurses := true, apart := false }
def FnExactPlainLiveSaid : Prop := fnExactPlainLiveRow.holds Try.pinned (OpenSpec.ofChange fnExactPlainLiveSpec)

/-- ITS FALSE NEIGHBOUR: 'it returns false'. Refute it at one input. -/
def fnExactPlainLiveWrong : ChangeSpec := { name := "fnExactPlainLive", fn := fun _ => fun
  | [d] => { results := [.lit (.bool false)], args := [d] }
  | _ => none }
def FnExactPlainLiveWrongFalsely : Prop := fnExactPlainLiveRow.holds Try.pinned (OpenSpec.ofChange fnExactPlainLiveWrong)

/-- 'laws.FnExactStrongLive': WHATEVER THE INPUT: true; the input reads as it did. -/
def fnExactStrongLiveSpec : ChangeSpec := { name := "fnExactStrongLive", fn := fun _ => fun
  | [d] => { results := [.lit (.bool true)], args := [d] }
  | _ => none }
def fnExactStrongLiveRow : OpenClaim := { program := "ytdbnokeegocpbaa", sum := "81f07a93c7ef4ac2cefac0907c0a1af715fd55c10a0bd6692d40bb5aeee8e6a1", func := "loop.example/g00350/laws.FnExactStrongLive", spec := "fnExactStrongLive", unfollowed := true, recurses := true, apart := false }
def FnExactStrongLiveSaid : Prop := fnExactStrongLiveRow.holds Try.pinned (OpenSpec.ofChange fnExactStrongLiveSpec)

/-- ITS FALSE NEIGHBOUR: 'it returns false'. Refute it at one input. -/
def fnExactStrongLiveWrong : ChangeSpec := { name := "fnExactStrongLive", fn := fun _ => fun
  | [d] => { results := [.lit (.bool false)], args := [d] }
  | _ => none }
def FnExactStrongLiveWrongFalsely : Prop := fnExactStrongLiveRow.holds Try.pinned (OpenSpec.ofChange fnExactStrongLiveWrong)

/-- 'laws.FnExactDeadAt': WHATEVER THE INPUT: true; the input reads as it did. -/
def fnExactDeadAtSpec : ChangeSpec := { name := "fnExactDeadAt", fn := fun _ => fun
  | [d] => { results := [.lit (.bool true)], args := [d] }
  | _ => none }
def fnExactDeadAtRow : OpenClaim := { program := "ytdbnokeegocpbaa", sum := "81f07a93c7ef4ac2cefac0907c0a1af715fd55c10a0bd6692d40bb5aeee8e6a1", func := "loop.example/g00350/laws.FnExactDeadAt", spec := "fnExactDeadAt", unfollowed := true, recurses := true, apart := false }
def FnExactDeadAtSaid : Prop := fnExactDeadAtRow.holds Try.pinned (OpenSpec.ofChange fnExactDeadAtSpec)

/-- ITS FALSE NEIGHBOUR: 'it returns false'. Refute it at one input. -/
def fnExactDeadAtWrong : ChangeSpec := { name := "fnExactDeadAt", fn := fun _ => fun
  | [d] => { results := [.lit (.bool false)], args := [d] }
  | _ => none }
def FnExactDeadAtWrongFalsely : Prop := fnExactDeadAtRow.holds Try.pinned (OpenSpec.ofChange fnExactDeadAtWrong)

/-- 'laws.FnExactDropDead': WHATEVER THE INPUT: true; the input reads as it did. -/
def fnExactDropDeadSpec : ChangeSpec := { name := "fnExactDropDead", fn := fun _ => fun
  | [d] => { results := [.lit (.bool true)], args := [d] }
  | _ => none }
def fnExactDropDeadRow : OpenClaim := { program := "ytdbnokeegocpbaa", sum := "81f07a93c7ef4ac2cefac0907c0a1af715fd55c10a0bd6692d40bb5aeee8e6a1", func := "loop.example/g00350/laws.FnExactDropDead", spec := "fnExactDropDead", unfollowed := true, recurses := true, apart := false }
def FnExactDropDeadSaid : Prop := fnExactDropDeadRow.holds Try.pinned (OpenSpec.ofChange fnExactDropDeadSpec)

/-- ITS FALSE NEIGHBOUR: 'it returns false'. Refute it at one input. -/
def fnExactDropDeadWrong : ChangeSpec := { name := "fnExactDropDead", fn := fun _ => fun
  | [d] => { results := [.lit (.bool false)], args := [d] }
  | _ => none }
def FnExactDropDeadWrongFalsely : Prop := fnExactDropDeadRow.holds Try.pinned (OpenSpec.ofChange fnExactDropDeadWrong)

/-- 'laws.FnFacts': WHATEVER THE INPUT: true; the input reads as it did. -/
def fnFactsSpec : ChangeSpec := { name := "fnFacts", fn := fun _ => fun
  | [d1, d2] => { results := [.lit (.bool true)], args := [d1, d2] }
  | _ => none }
def fnFactsRow : OpenClaim := { program := "ytdbnokeegocpbaa", sum := "81f07a93c7ef4ac2cefac0907c0a1af715fd55c10a0bd6692d40bb5aeee8e6a1", func := "loop.example/g00350/laws.FnFacts", spec := "fnFacts", unfollowed := true, recurses := true, apart := false }
def FnFactsSaid : Prop := fnFactsRow.holds Try.pinned (OpenSpec.ofChange fnFactsSpec)

/-- ITS FALSE NEIGHBOUR: 'it returns false'. Refute it at one input. -/
def fnFactsWrong : ChangeSpec := { name := "fnFacts", fn := fun _ => fun
  | [d1, d2] => { results := [.lit (.bool false)], args := [d1, d2] }
  | _ => none }
def FnFactsWrongFalsely : Prop := fnFactsRow.holds Try.pinned (OpenSpec.ofChange fnFactsWrong)

/-- 'laws.FnSteps': WHATEVER THE INPUT: true; the input reads as it did. -/
def fnStepsSpec : ChangeSpec := { name := "fnSteps", fn := fun _ => fun
  | [d1, d2] => { results := [.lit (.bool true)], args := [d1, d2] }
  | _ => none }
def fnStepsRow : OpenClaim := { program := "ytdbnokeegocpbaa", sum := "81f07a93c7ef4ac2cefac0907c0a1af715fd55c10a0bd6692d40bb5aeee8e6a1", func := "loop.example/g00350/laws.FnSteps", spec := "fnSteps", unfollowed := true, recurses := true, apart := false }
def FnStepsSaid : Prop := fnStepsRow.holds Try.pinned (OpenSpec.ofChange fnStepsSpec)

/-- ITS FALSE NEIGHBOUR: 'it returns false'. Refute it at one input. -/
def fnStepsWrong : ChangeSpec := { name := "fnSteps", fn := fun _ => fun
  | [d1, d2] => { results := [.lit (.bool false)], args := [d1, d2] }
  | _ => none }
def FnStepsWrongFalsely : Prop := fnStepsRow.holds Try.pinned (OpenSpec.ofChange fnStepsWrong)

/-- 'laws.FnDead': WHATEVER THE INPUT: true; the input reads as it did. -/
def fnDeadSpec : ChangeSpec := { name := "fnDead", fn := fun _ => fun
  | [d] => { results := [.lit (.bool true)], args := [d] }
  | _ => none }
def fnDeadRow : OpenClaim := { program := "ytdbnokeegocpbaa", sum := "81f07a93c7ef4ac2cefac0907c0a1af715fd55c10a0bd6692d40bb5aeee8e6a1", func := "loop.example/g00350/laws.FnDead", spec := "fnDead", unfollowed := true, recurses := true, apart := false }
def FnDeadSaid : Prop := fnDeadRow.holds Try.pinned (OpenSpec.ofChange fnDeadSpec)

/-- ITS FALSE NEIGHBOUR: 'it returns false'. Refute it at one input. -/
def fnDeadWrong : ChangeSpec := { name := "fnDead", fn := fun _ => fun
  | [d] => { results := [.lit (.bool false)], args := [d] }
  | _ => none }
def FnDeadWrongFalsely : Prop := fnDeadRow.holds Try.pinned (OpenSpec.ofChange fnDeadWrong)

/-- 'laws.FnExactFoldFlow': WHATEVER THE INPUT: true; the input reads as it did. -/
def fnExactFoldFlowSpec : ChangeSpec := { name := "fnExactFoldFlow", fn := fun _ => fun
  | [d1, d2] => { results := [.lit (.bool true)], args := [d1, d2] }
  | _ => none }
def fnExactFoldFlowRow : OpenClaim := { program := "ytdbnokeegocpbaa", sum := "81f07a93c7ef4ac2cefac0907c0a1af715fd55c10a0bd6692d40bb5aeee8e6a1", func := "loop.example/g00350/laws.FnExactFoldFlow", spec := "fnExactFoldFlow", unfollowed := true, recurses := true, apart := false }
def FnExactFoldFlowSaid : Prop := fnExactFoldFlowRow.holds Try.pinned (OpenSpec.ofChange fnExactFoldFlowSpec)

/-- ITS FALSE NEIGHBOUR: 'it returns false'. Refute it at one input. -/
def fnExactFoldFlowWrong : ChangeSpec := { name := "fnExactFoldFlow", fn := fun _ => fun
  | [d1, d2] => { results := [.lit (.bool false)], args := [d1, d2] }
  | _ => none }
def FnExactFoldFlowWrongFalsely : Prop := fnExactFoldFlowRow.holds Try.pinned (OpenSpec.ofChange fnExactFoldFlowWrong)

/- THE SECOND FORM. 'bulk': how many values and letters a reading holds, each counted each time it is reached (what is shared counts as often as it is met; a slice's spare places count too). A statement '..UptoSaid' is the law's where the arguments, and the package variables that the reading takes, are together of bulk at most 1048576: NARROWER than '..Said'. Prove '..Said' where nothing that the law and all that it calls make is longer than what came in: it says more and counts as full. Else prove '..UptoSaid'. A law counts once. -/
mutual
def uptoBulk {H : Type} : DataW H → Nat
  | .lit (.string bytes) => bytes.length + 1
  | .lit _ => 1
  | .nil => 1
  | .ptr d => uptoBulk d + 1
  | .slice elems spare => uptoBulkAll elems + uptoBulkAll spare + 1
  | .agg parts => uptoBulkAll parts + 1
  | .iface _ d => uptoBulk d + 1
  | .map entries => uptoBulkEntries entries + 1
  | .held _ => 1
def uptoBulkAll {H : Type} : List (DataW H) → Nat
  | [] => 0
  | d :: r => uptoBulk d + uptoBulkAll r
def uptoBulkEntries {H : Type} : List (Lit × DataW H) → Nat
  | [] => 0
  | x :: r => uptoBulkEntry x + uptoBulkEntries r
def uptoBulkEntry {H : Type} : Lit × DataW H → Nat
  | (.string bytes, d) => bytes.length + uptoBulk d + 1
  | (_, d) => uptoBulk d + 1
 end
def uptoSmall : (H : Type) → List (DataW H) → Bool := fun _ ds => decide (uptoBulkAll ds ≤ 1048576)
def OpenSpec.upto (s : _root_.Go.ChangeSpec) : _root_.Go.OpenSpec := { _root_.Go.OpenSpec.ofChange s with cond := some uptoSmall }

/-- 'laws.FnExactDropLost', WHERE WHAT IT READS IS OF BULK AT MOST 1048576: true; the input reads as it did. -/
def fnExactDropLostUptoRow : OpenClaim := { program := "ytdbnokeegocpbaa", sum := "81f07a93c7ef4ac2cefac0907c0a1af715fd55c10a0bd6692d40bb5aeee8e6a1", func := "loop.example/g00350/laws.FnExactDropLost", spec := "fnExactDropLost", unfollowed := true, recurses := true, apart := false, narrowed := true }
def FnExactDropLostUptoSaid : Prop := fnExactDropLostUptoRow.holds Try.pinned (OpenSpec.upto fnExactDropLostSpec)

/-- 'laws.FnExactBackStep', WHERE WHAT IT READS IS OF BULK AT MOST 1048576: true; the input reads as it did. -/
def fnExactBackStepUptoRow : OpenClaim := { program := "ytdbnokeegocpbaa", sum := "81f07a93c7ef4ac2cefac0907c0a1af715fd55c10a0bd6692d40bb5aeee8e6a1", func := "loop.example/g00350/laws.FnExactBackStep", spec := "fnExactBackStep", unfollowed := true, recurses := true, apart := false, narrowed := true }
def FnExactBackStepUptoSaid : Prop := fnExactBackStepUptoRow.holds Try.pinned (OpenSpec.upto fnExactBackStepSpec)

/-- 'laws.FnExactPlainLive', WHERE WHAT IT READS IS OF BULK AT MOST 1048576: true; the input reads as it did. -/
def fnExactPlainLiveUptoRow : OpenClaim := { program := "ytdbnokeegocpbaa", sum := "81f07a93c7ef4ac2cefac0907c0a1af715fd55c10a0bd6692d40bb5aeee8e6a1", func := "loop.example/g00350/laws.FnExactPlainLive", spec := "fnExactPlainLive", unfollowed := true, recurses := true, apart := false, narrowed := true }
def FnExactPlainLiveUptoSaid : Prop := fnExactPlainLiveUptoRow.holds Try.pinned (OpenSpec.upto fnExactPlainLiveSpec)

/-- 'laws.FnExactStrongLive', WHERE WHAT IT READS IS OF BULK AT MOST 1048576: true; the input reads as it did. -/
def fnExactStrongLiveUptoRow : OpenClaim := { program := "ytdbnokeegocpbaa", sum := "81f07a93c7ef4ac2cefac0907c0a1af715fd55c10a0bd6692d40bb5aeee8e6a1", func := "loop.example/g00350/laws.FnExactStrongLive", spec := "fnExactStrongLive", unfollowed := true, recurses := true, apart := false, narrowed := true }
def FnExactStrongLiveUptoSaid : Prop := fnExactStrongLiveUptoRow.holds Try.pinned (OpenSpec.upto fnExactStrongLiveSpec)

/-- 'laws.FnExactDeadAt', WHERE WHAT IT READS IS OF BULK AT MOST 1048576: true; the input reads as it did. -/
def fnExactDeadAtUptoRow : OpenClaim := { program := "ytdbnokeegocpbaa", sum := "81f07a93c7ef4ac2cefac0907c0a1af715fd55c10a0bd6692d40bb5aeee8e6a1", func := "loop.example/g00350/laws.FnExactDeadAt", spec := "fnExactDeadAt", unfollowed := true, recurses := true, apart := false, narrowed := true }
def FnExactDeadAtUptoSaid : Prop := fnExactDeadAtUptoRow.holds Try.pinned (OpenSpec.upto fnExactDeadAtSpec)

/-- 'laws.FnExactDropDead', WHERE WHAT IT READS IS OF BULK AT MOST 1048576: true; the input reads as it did. -/
def fnExactDropDeadUptoRow : OpenClaim := { program := "ytdbnokeegocpbaa", sum := "81f07a93c7ef4ac2cefac0907c0a1af715fd55c10a0bd6692d40bb5aeee8e6a1", func := "loop.example/g00350/laws.FnExactDropDead", spec := "fnExactDropDead", unfollowed := true, recurses := true, apart := false, narrowed := true }
def FnExactDropDeadUptoSaid : Prop := fnExactDropDeadUptoRow.holds Try.pinned (OpenSpec.upto fnExactDropDeadSpec)

/-- 'laws.FnFacts', WHERE WHAT IT READS IS OF BULK AT MOST 1048576: true; the input reads as it did. -/
def fnFactsUptoRow : OpenClaim := { program := "ytdbnokeegocpbaa", sum := "81f07a93c7ef4ac2cefac0907c0a1af715fd55c10a0bd6692d40bb5aeee8e6a1", func := "loop.example/g00350/laws.FnFacts", spec := "fnFacts", unfollowed := true, recurses := true, apart := false, narrowed := true }
def FnFactsUptoSaid : Prop := fnFactsUptoRow.holds Try.pinned (OpenSpec.upto fnFactsSpec)

/-- 'laws.FnSteps', WHERE WHAT IT READS IS OF BULK AT MOST 1048576: true; the input reads as it did. -/
def fnStepsUptoRow : OpenClaim := { program := "ytdbnokeegocpbaa", sum := "81f07a93c7ef4ac2cefac0907c0a1af715fd55c10a0bd6692d40bb5aeee8e6a1", func := "loop.example/g00350/laws.FnSteps", spec := "fnSteps", unfollowed := true, recurses := true, apart := false, narrowed := true }
def FnStepsUptoSaid : Prop := fnStepsUptoRow.holds Try.pinned (OpenSpec.upto fnStepsSpec)

/-- 'laws.FnDead', WHERE WHAT IT READS IS OF BULK AT MOST 1048576: true; the input reads as it did. -/
def fnDeadUptoRow : OpenClaim := { program := "ytdbnokeegocpbaa", sum := "81f07a93c7ef4ac2cefac0907c0a1af715fd55c10a0bd6692d40bb5aeee8e6a1", func := "loop.example/g00350/laws.FnDead", spec := "fnDead", unfollowed := true, recurses := true, apart := false, narrowed := true }
def FnDeadUptoSaid : Prop := fnDeadUptoRow.holds Try.pinned (OpenSpec.upto fnDeadSpec)

/-- 'laws.FnExactFoldFlow', WHERE WHAT IT READS IS OF BULK AT MOST 1048576: true; the input reads as it did. -/
def fnExactFoldFlowUptoRow : OpenClaim := { program := "ytdbnokeegocpbaa", sum := "81f07a93c7ef4ac2cefac0907c0a1af715fd55c10a0bd6692d40bb5aeee8e6a1", func := "loop.example/g00350/laws.FnExactFoldFlow", spec := "fnExactFoldFlow", unfollowed := true, recurses := true, apart := false, narrowed := true }
def FnExactFoldFlowUptoSaid : Prop := fnExactFoldFlowUptoRow.holds Try.pinned (OpenSpec.upto fnExactFoldFlowSpec)

end Rows
end Go.Proofs.Ytdbnokeegocpbaa
