/-
  No cell of these rows narrows 'for every input' (looked for: loops, veiled, ifaces, maps, wideKeys, modest, calm, conditions, laid).
  DERIVED. THE GIVEN ROWS OF THIS SEAT. 7 by the template 'for every input the law returns true; each argument reads behind the call as it read before'; 0 by the template 'total and deterministic' (their statements: YtfndikfaibbjoaaTotals.lean).
  GIVEN WITH THE SEED: the statements are not yours to turn. If you find one false, say at which input.
  Laid BY PROGRAM, IN A SANDBOX (cutbox-rows.mjs): the forced cells as the released guide's own fill.sh prints them over the translation 044e55542edbf424… (all of the seat's roots in one cut). By AI agents, Wed Nov 11 2026. No macro, syntax, notation, axiom, sorry.
-/
import Derived.Test.YtfndikfaibbjoaaChecked
import GoSem.Claim
import GoSem.ClaimJoined
import GoSem.ClaimMapViews
import Derived.JoinedTies
import Derived.KernelRfl
namespace Go.Proofs.Ytfndikfaibbjoaa
/- THE CELL 'sum', in the pinned program and in every row, IS THE sha256 OF THE DUMP (.gsa) THAT YtfndikfaibbjoaaProg.lean LOADS. Nothing in Lean hashes anything: it is a label: what it is worth is what the hold of that sum in a sandbox is worth. -/
noncomputable def Try.pinned : Pinned := { name := "ytfndikfaibbjoaa", sum := "044e55542edbf424aa188e9ede4a59b3eb8b1b74162b095d7b3d68961844360f", checked := Try.checked }
namespace Rows
def none {H : Type} : Left H := { results := [], args := [] }

/-- 'laws.FnExactWidenRange': WHATEVER THE INPUT: true; the input reads as it did. -/
def fnExactWidenRangeSpec : ChangeSpec := { name := "fnExactWidenRange", fn := fun _ => fun
  | [d1, d2] => { results := [.lit (.bool true)], args := [d1, d2] }
  | _ => none }
def fnExactWidenRangeRow : OpenClaim := { program := "ytfndikfaibbjoaa", sum := "044e55542edbf424aa188e9ede4a59b3eb8b1b74162b095d7b3d68961844360f", func := "loop.example/g00350/laws.FnExactWidenRange", spec := "fnExactWidenRange", apart := false }
def FnExactWidenRangeSaid : Prop := fnExactWidenRangeRow.holds Try.pinned (OpenSpec.ofChange fnExactWidenRangeSpec)

/-- ITS FALSE NEIGHBOUR: 'it returns false'. Refute it at one input. -/
def fnExactWidenRangeWrong : ChangeSpec := { name := "fnExactWidenRange", fn := fun _ => fun
  | [d1, d2] => { results := [.lit (.bool false)], args := [d1, d2] }
  | _ => none }
def FnExactWidenRangeWrongFalsely : Prop := fnExactWidenRangeRow.holds Try.pinned (OpenSpec.ofChange fnExactWidenRangeWrong)

/-- 'laws.FnExactFlowRanges': WHATEVER THE INPUT: true; the input reads as it did. -/
def fnExactFlowRangesSpec : ChangeSpec := { name := "fnExactFlowRanges", fn := fun _ => fun
  | [d1, d2] => { results := [.lit (.bool true)], args := [d1, d2] }
  | _ => none }
def fnExactFlowRangesRow : OpenClaim := { program := "ytfndikfaibbjoaa", sum := "044e55542edbf424aa188e9ede4a59b3eb8b1b74162b095d7b3d68961844360f", func := "loop.example/g00350/laws.FnExactFlowRanges", spec := "fnExactFlowRanges", unfollowed := true, recurses := true, apart := false }
def FnExactFlowRangesSaid : Prop := fnExactFlowRangesRow.holds Try.pinned (OpenSpec.ofChange fnExactFlowRangesSpec)

/-- ITS FALSE NEIGHBOUR: 'it returns false'. Refute it at one input. -/
def fnExactFlowRangesWrong : ChangeSpec := { name := "fnExactFlowRanges", fn := fun _ => fun
  | [d1, d2] => { results := [.lit (.bool false)], args := [d1, d2] }
  | _ => none }
def FnExactFlowRangesWrongFalsely : Prop := fnExactFlowRangesRow.holds Try.pinned (OpenSpec.ofChange fnExactFlowRangesWrong)

/-- 'laws.FnExactAddRanges': WHATEVER THE INPUT: true; the input reads as it did. -/
def fnExactAddRangesSpec : ChangeSpec := { name := "fnExactAddRanges", fn := fun _ => fun
  | [d1, d2] => { results := [.lit (.bool true)], args := [d1, d2] }
  | _ => none }
def fnExactAddRangesRow : OpenClaim := { program := "ytfndikfaibbjoaa", sum := "044e55542edbf424aa188e9ede4a59b3eb8b1b74162b095d7b3d68961844360f", func := "loop.example/g00350/laws.FnExactAddRanges", spec := "fnExactAddRanges", apart := false }
def FnExactAddRangesSaid : Prop := fnExactAddRangesRow.holds Try.pinned (OpenSpec.ofChange fnExactAddRangesSpec)

/-- ITS FALSE NEIGHBOUR: 'it returns false'. Refute it at one input. -/
def fnExactAddRangesWrong : ChangeSpec := { name := "fnExactAddRanges", fn := fun _ => fun
  | [d1, d2] => { results := [.lit (.bool false)], args := [d1, d2] }
  | _ => none }
def FnExactAddRangesWrongFalsely : Prop := fnExactAddRangesRow.holds Try.pinned (OpenSpec.ofChange fnExactAddRangesWrong)

/-- 'laws.FnExactMulRanges': WHATEVER THE INPUT: true; the input reads as it did. -/
def fnExactMulRangesSpec : ChangeSpec := { name := "fnExactMulRanges", fn := fun _ => fun
  | [d1, d2] => { results := [.lit (.bool true)], args := [d1, d2] }
  | _ => none }
def fnExactMulRangesRow : OpenClaim := { program := "ytfndikfaibbjoaa", sum := "044e55542edbf424aa188e9ede4a59b3eb8b1b74162b095d7b3d68961844360f", func := "loop.example/g00350/laws.FnExactMulRanges", spec := "fnExactMulRanges", apart := false }
def FnExactMulRangesSaid : Prop := fnExactMulRangesRow.holds Try.pinned (OpenSpec.ofChange fnExactMulRangesSpec)

/-- ITS FALSE NEIGHBOUR: 'it returns false'. Refute it at one input. -/
def fnExactMulRangesWrong : ChangeSpec := { name := "fnExactMulRanges", fn := fun _ => fun
  | [d1, d2] => { results := [.lit (.bool false)], args := [d1, d2] }
  | _ => none }
def FnExactMulRangesWrongFalsely : Prop := fnExactMulRangesRow.holds Try.pinned (OpenSpec.ofChange fnExactMulRangesWrong)

/-- 'laws.FnExactStepRanges': WHATEVER THE INPUT: true; the input reads as it did. -/
def fnExactStepRangesSpec : ChangeSpec := { name := "fnExactStepRanges", fn := fun _ => fun
  | [d1, d2] => { results := [.lit (.bool true)], args := [d1, d2] }
  | _ => none }
def fnExactStepRangesRow : OpenClaim := { program := "ytfndikfaibbjoaa", sum := "044e55542edbf424aa188e9ede4a59b3eb8b1b74162b095d7b3d68961844360f", func := "loop.example/g00350/laws.FnExactStepRanges", spec := "fnExactStepRanges", unfollowed := true, recurses := true, apart := false }
def FnExactStepRangesSaid : Prop := fnExactStepRangesRow.holds Try.pinned (OpenSpec.ofChange fnExactStepRangesSpec)

/-- ITS FALSE NEIGHBOUR: 'it returns false'. Refute it at one input. -/
def fnExactStepRangesWrong : ChangeSpec := { name := "fnExactStepRanges", fn := fun _ => fun
  | [d1, d2] => { results := [.lit (.bool false)], args := [d1, d2] }
  | _ => none }
def FnExactStepRangesWrongFalsely : Prop := fnExactStepRangesRow.holds Try.pinned (OpenSpec.ofChange fnExactStepRangesWrong)

/-- 'laws.FnBounds': WHATEVER THE INPUT: true; the input reads as it did. -/
def fnBoundsSpec : ChangeSpec := { name := "fnBounds", fn := fun _ => fun
  | [d1, d2] => { results := [.lit (.bool true)], args := [d1, d2] }
  | _ => none }
def fnBoundsRow : OpenClaim := { program := "ytfndikfaibbjoaa", sum := "044e55542edbf424aa188e9ede4a59b3eb8b1b74162b095d7b3d68961844360f", func := "loop.example/g00350/laws.FnBounds", spec := "fnBounds", unfollowed := true, recurses := true, apart := false }
def FnBoundsSaid : Prop := fnBoundsRow.holds Try.pinned (OpenSpec.ofChange fnBoundsSpec)

/-- ITS FALSE NEIGHBOUR: 'it returns false'. Refute it at one input. -/
def fnBoundsWrong : ChangeSpec := { name := "fnBounds", fn := fun _ => fun
  | [d1, d2] => { results := [.lit (.bool false)], args := [d1, d2] }
  | _ => none }
def FnBoundsWrongFalsely : Prop := fnBoundsRow.holds Try.pinned (OpenSpec.ofChange fnBoundsWrong)

/-- 'laws.FnRanges': WHATEVER THE INPUT: true; the input reads as it did. -/
def fnRangesSpec : ChangeSpec := { name := "fnRanges", fn := fun _ => fun
  | [d1, d2] => { results := [.lit (.bool true)], args := [d1, d2] }
  | _ => none }
def fnRangesRow : OpenClaim := { program := "ytfndikfaibbjoaa", sum := "044e55542edbf424aa188e9ede4a59b3eb8b1b74162b095d7b3d68961844360f", func := "loop.example/g00350/laws.FnRanges", spec := "fnRanges", unfollowed := true, recurses := true, apart := false }
def FnRangesSaid : Prop := fnRangesRow.holds Try.pinned (OpenSpec.ofChange fnRangesSpec)

/-- ITS FALSE NEIGHBOUR: 'it returns false'. Refute it at one input. -/
def fnRangesWrong : ChangeSpec := { name := "fnRanges", fn := fun _ => fun
  | [d1, d2] => { results := [.lit (.bool false)], args := [d1, d2] }
  | _ => none }
def FnRangesWrongFalsely : Prop := fnRangesRow.holds Try.pinned (OpenSpec.ofChange fnRangesWrong)

/- THE SECOND FORM. 'bulk': how many values and letters a reading holds, each counted each time it is reached (what is shared counts as often as it is met; a slice's spare places count too). A statement '..UptoSaid' is the law's where the arguments, and the package variables that the reading takes, are together of bulk at most 1048576: NARROWER than '..Said'. Prove '..Said' where nothing that the law and all that it calls make is longer than what came in: it says more and counts as full. Else prove '..UptoSaid'. A law counts once. -/
mutual
def uptoBulk {H : Type} : DataW H → Nat
  | .lit (.string bytes) => bytes.length + 1
  | .lit _ => 1
  | .nil => 1
  | .ptr d => uptoBulk d + 1
  | .slice elems spare => uptoBulkAll elems + uptoBulkAll spare + 1
  | .agg parts => uptoBulkAll parts + 1
  | .iface _ d => uptoBulk d + 1
  | .map entries => uptoBulkEntries entries + 1
  | .held _ => 1
def uptoBulkAll {H : Type} : List (DataW H) → Nat
  | [] => 0
  | d :: r => uptoBulk d + uptoBulkAll r
def uptoBulkEntries {H : Type} : List (Lit × DataW H) → Nat
  | [] => 0
  | x :: r => uptoBulkEntry x + uptoBulkEntries r
def uptoBulkEntry {H : Type} : Lit × DataW H → Nat
  | (.string bytes, d) => bytes.length + uptoBulk d + 1
  | (_, d) => uptoBulk d + 1
 end
def uptoSmall : (H : Type) → List (DataW H) → Bool := fun _ ds => decide (uptoBulkAll ds ≤ 1048576)
def OpenSpec.upto (s : _root_.Go.ChangeSpec) : _root_.Go.OpenSpec := { _root_.Go.OpenSpec.ofChange s with cond := some uptoSmall }

/-- 'laws.FnExactWidenRange', WHERE WHAT IT READS IS OF BULK AT MOST 1048576: true; the input reads as it did. -/
def fnExactWidenRangeUptoRow : OpenClaim := { program := "ytfndikfaibbjoaa", sum := "044e55542edbf424aa188e9ede4a59b3eb8b1b74162b095d7b3d68961844360f", func := "loop.example/g00350/laws.FnExactWidenRange", spec := "fnExactWidenRange", apart := false, narrowed := true }
def FnExactWidenRangeUptoSaid : Prop := fnExactWidenRangeUptoRow.holds Try.pinned (OpenSpec.upto fnExactWidenRangeSpec)

/-- 'laws.FnExactFlowRanges', WHERE WHAT IT READS IS OF BULK AT MOST 1048576: true; the input reads as it did. -/
def fnExactFlowRangesUptoRow : OpenClaim := { program := "ytfndikfaibbjoaa", sum := "044e55542edbf424aa188e9ede4a59b3eb8b1b74162b095d7b3d68961844360f", func := "loop.example/g00350/laws.FnExactFlowRanges", spec := "fnExactFlowRanges", unfollowed := true, recurses := true, apart := false, narrowed := true }
def FnExactFlowRangesUptoSaid : Prop := fnExactFlowRangesUptoRow.holds Try.pinned (OpenSpec.upto fnExactFlowRangesSpec)

/-- 'laws.FnExactAddRanges', WHERE WHAT IT READS IS OF BULK AT MOST 1048576: true; the input reads as it did. -/
def fnExactAddRangesUptoRow : OpenClaim := { program := "ytfndikfaibbjoaa", sum := "044e55542edbf424aa188e9ede4a59b3eb8b1b74162b095d7b3d68961844360f", func := "loop.example/g00350/laws.FnExactAddRanges", spec := "fnExactAddRanges", apart := false, narrowed := true }
def FnExactAddRangesUptoSaid : Prop := fnExactAddRangesUptoRow.holds Try.pinned (OpenSpec.upto fnExactAddRangesSpec)

/-- 'laws.FnExactMulRanges', WHERE WHAT IT READS IS OF BULK AT MOST 1048576: true; the input reads as it did. -/
def fnExactMulRangesUptoRow : OpenClaim := { program := "ytfndikfaibbjoaa", sum := "044e55542edbf424aa188e9ede4a59b3eb8b1b74162b095d7b3d68961844360f", func := "loop.example/g00350/laws.FnExactMulRanges", spec := "fnExactMulRanges", apart := false, narrowed := true }
def FnExactMulRangesUptoSaid : Prop := fnExactMulRangesUptoRow.holds Try.pinned (OpenSpec.upto fnExactMulRangesSpec)

/-- 'laws.FnExactStepRanges', WHERE WHAT IT READS IS OF BULK AT MOST 1048576: true; the input reads as it did. -/
def fnExactStepRangesUptoRow : OpenClaim := { program := "ytfndikfaibbjoaa", sum := "044e55542edbf424aa188e9ede4a59b3eb8b1b74162b095d7b3d68961844360f", func := "loop.example/g00350/laws.FnExactStepRanges", spec := "fnExactStepRanges", unfollowed := true, recurses := true, apart := false, narrowed := true }
def FnExactStepRangesUptoSaid : Prop := fnExactStepRangesUptoRow.holds Try.pinned (OpenSpec.upto fnExactStepRangesSpec)

/-- 'laws.FnBounds', WHERE WHAT IT READS IS OF BULK AT MOST 1048576: true; the input reads as it did. -/
def fnBoundsUptoRow : OpenClaim := { program := "ytfndikfaibbjoaa", sum := "044e55542edbf424aa188e9ede4a59b3eb8b1b74162b095d7b3d68961844360f", func := "loop.example/g00350/laws.FnBounds", spec := "fnBounds", unfollowed := true, recurses := true, apart := false, narrowed := true }
def FnBoundsUptoSaid : Prop := fnBoundsUptoRow.holds Try.pinned (OpenSpec.upto fnBoundsSpec)

/-- 'laws.FnRanges', WHERE WHAT IT READS IS OF BULK AT MOST 1048576: true; the input reads as it did. -/
def fnRangesUptoRow : OpenClaim := { program := "ytfndikfaibbjoaa", sum := "044e55542edbf424aa188e9ede4a59b3eb8b1b74162b095d7b3d68961844360f", func := "loop.example/g00350/laws.FnRanges", spec := "fnRanges", unfollowed := true, recurses := true, apart := false, narrowed := true }
def FnRangesUptoSaid : Prop := fnRangesUptoRow.holds Try.pinned (OpenSpec.upto fnRangesSpec)

end Rows
end Go.Proofs.Ytfndikfaibbjoaa
