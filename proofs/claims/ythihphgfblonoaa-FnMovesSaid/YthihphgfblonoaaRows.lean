/-
  No cell of these rows narrows 'for every input' (looked for: loops, veiled, ifaces, maps, wideKeys, modest, calm, conditions, laid).
  DERIVED. THE GIVEN ROWS OF THIS SEAT. 9 by the template 'for every input the law returns true; each argument reads behind the call as it read before'; 0 by the template 'total and deterministic' (their statements: YthihphgfblonoaaTotals.lean).
  GIVEN WITH THE SEED: the statements are not yours to turn. If you find one false, say at which input.
  Laid BY PROGRAM, IN A SANDBOX (cutbox-rows.mjs): the forced cells as the released guide's own fill.sh prints them over the translation 3852df26c6b53ef5… (all of the seat's roots in one cut). By AI agents, Wed Nov 11 2026. No macro, syntax, notation, axiom, sorry.
-/
import Derived.Test.YthihphgfblonoaaChecked
import GoSem.Claim
import GoSem.ClaimJoined
import GoSem.ClaimMapViews
import Derived.JoinedTies
import Derived.KernelRfl
namespace Go.Proofs.Ythihphgfblonoaa
/- THE CELL 'sum', in the pinned program and in every row, IS THE sha256 OF THE DUMP (.gsa) THAT YthihphgfblonoaaProg.lean LOADS. Nothing in Lean hashes anything: it is a label: what it is worth is what the hold of that sum in a sandbox is worth. -/
noncomputable def Try.pinned : Pinned := { name := "ythihphgfblonoaa", sum := "3852df26c6b53ef5d1cedd3e8b43bb8f30c42b208911f42115a753f247dd16b5", checked := Try.checked }
namespace Rows
def none {H : Type} : Left H := { results := [], args := [] }

/-- 'laws.FnExactGoodMoves': WHATEVER THE INPUT: true; the input reads as it did. -/
def fnExactGoodMovesSpec : ChangeSpec := { name := "fnExactGoodMoves", fn := fun _ => fun
  | [d] => { results := [.lit (.bool true)], args := [d] }
  | _ => none }
def fnExactGoodMovesRow : OpenClaim := { program := "ythihphgfblonoaa", sum := "3852df26c6b53ef5d1cedd3e8b43bb8f30c42b208911f42115a753f247dd16b5", func := "loop.example/g00350/laws.FnExactGoodMoves", spec := "fnExactGoodMoves", apart := false }
def FnExactGoodMovesSaid : Prop := fnExactGoodMovesRow.holds Try.pinned (OpenSpec.ofChange fnExactGoodMovesSpec)

/-- ITS FALSE NEIGHBOUR: 'it returns false'. Refute it at one input. -/
def fnExactGoodMovesWrong : ChangeSpec := { name := "fnExactGoodMoves", fn := fun _ => fun
  | [d] => { results := [.lit (.bool false)], args := [d] }
  | _ => none }
def FnExactGoodMovesWrongFalsely : Prop := fnExactGoodMovesRow.holds Try.pinned (OpenSpec.ofChange fnExactGoodMovesWrong)

/-- 'laws.FnExactDoInTurn': WHATEVER THE INPUT: true; the input reads as it did. -/
def fnExactDoInTurnSpec : ChangeSpec := { name := "fnExactDoInTurn", fn := fun _ => fun
  | [d1, d2] => { results := [.lit (.bool true)], args := [d1, d2] }
  | _ => none }
def fnExactDoInTurnRow : OpenClaim := { program := "ythihphgfblonoaa", sum := "3852df26c6b53ef5d1cedd3e8b43bb8f30c42b208911f42115a753f247dd16b5", func := "loop.example/g00350/laws.FnExactDoInTurn", spec := "fnExactDoInTurn", unfollowed := true, recurses := true, apart := false }
def FnExactDoInTurnSaid : Prop := fnExactDoInTurnRow.holds Try.pinned (OpenSpec.ofChange fnExactDoInTurnSpec)

/-- ITS FALSE NEIGHBOUR: 'it returns false'. Refute it at one input. -/
def fnExactDoInTurnWrong : ChangeSpec := { name := "fnExactDoInTurn", fn := fun _ => fun
  | [d1, d2] => { results := [.lit (.bool false)], args := [d1, d2] }
  | _ => none }
def FnExactDoInTurnWrongFalsely : Prop := fnExactDoInTurnRow.holds Try.pinned (OpenSpec.ofChange fnExactDoInTurnWrong)

/-- 'laws.FnExactNeedsSpare': WHATEVER THE INPUT: true; the input reads as it did. -/
def fnExactNeedsSpareSpec : ChangeSpec := { name := "fnExactNeedsSpare", fn := fun _ => fun
  | [d] => { results := [.lit (.bool true)], args := [d] }
  | _ => none }
def fnExactNeedsSpareRow : OpenClaim := { program := "ythihphgfblonoaa", sum := "3852df26c6b53ef5d1cedd3e8b43bb8f30c42b208911f42115a753f247dd16b5", func := "loop.example/g00350/laws.FnExactNeedsSpare", spec := "fnExactNeedsSpare", apart := false }
def FnExactNeedsSpareSaid : Prop := fnExactNeedsSpareRow.holds Try.pinned (OpenSpec.ofChange fnExactNeedsSpareSpec)

/-- ITS FALSE NEIGHBOUR: 'it returns false'. Refute it at one input. -/
def fnExactNeedsSpareWrong : ChangeSpec := { name := "fnExactNeedsSpare", fn := fun _ => fun
  | [d] => { results := [.lit (.bool false)], args := [d] }
  | _ => none }
def FnExactNeedsSpareWrongFalsely : Prop := fnExactNeedsSpareRow.holds Try.pinned (OpenSpec.ofChange fnExactNeedsSpareWrong)

/-- 'laws.FnExactDoAtOnce': WHATEVER THE INPUT: true; the input reads as it did. -/
def fnExactDoAtOnceSpec : ChangeSpec := { name := "fnExactDoAtOnce", fn := fun _ => fun
  | [d1, d2] => { results := [.lit (.bool true)], args := [d1, d2] }
  | _ => none }
def fnExactDoAtOnceRow : OpenClaim := { program := "ythihphgfblonoaa", sum := "3852df26c6b53ef5d1cedd3e8b43bb8f30c42b208911f42115a753f247dd16b5", func := "loop.example/g00350/laws.FnExactDoAtOnce", spec := "fnExactDoAtOnce", unfollowed := true, recurses := true, apart := false }
def FnExactDoAtOnceSaid : Prop := fnExactDoAtOnceRow.holds Try.pinned (OpenSpec.ofChange fnExactDoAtOnceSpec)

/-- ITS FALSE NEIGHBOUR: 'it returns false'. Refute it at one input. -/
def fnExactDoAtOnceWrong : ChangeSpec := { name := "fnExactDoAtOnce", fn := fun _ => fun
  | [d1, d2] => { results := [.lit (.bool false)], args := [d1, d2] }
  | _ => none }
def FnExactDoAtOnceWrongFalsely : Prop := fnExactDoAtOnceRow.holds Try.pinned (OpenSpec.ofChange fnExactDoAtOnceWrong)

/-- 'laws.FnExactRingsIn': WHATEVER THE INPUT: true; the input reads as it did. -/
def fnExactRingsInSpec : ChangeSpec := { name := "fnExactRingsIn", fn := fun _ => fun
  | [d] => { results := [.lit (.bool true)], args := [d] }
  | _ => none }
def fnExactRingsInRow : OpenClaim := { program := "ythihphgfblonoaa", sum := "3852df26c6b53ef5d1cedd3e8b43bb8f30c42b208911f42115a753f247dd16b5", func := "loop.example/g00350/laws.FnExactRingsIn", spec := "fnExactRingsIn", apart := false }
def FnExactRingsInSaid : Prop := fnExactRingsInRow.holds Try.pinned (OpenSpec.ofChange fnExactRingsInSpec)

/-- ITS FALSE NEIGHBOUR: 'it returns false'. Refute it at one input. -/
def fnExactRingsInWrong : ChangeSpec := { name := "fnExactRingsIn", fn := fun _ => fun
  | [d] => { results := [.lit (.bool false)], args := [d] }
  | _ => none }
def FnExactRingsInWrongFalsely : Prop := fnExactRingsInRow.holds Try.pinned (OpenSpec.ofChange fnExactRingsInWrong)

/-- 'laws.FnExactFewestMoves': WHATEVER THE INPUT: true; the input reads as it did. -/
def fnExactFewestMovesSpec : ChangeSpec := { name := "fnExactFewestMoves", fn := fun _ => fun
  | [d] => { results := [.lit (.bool true)], args := [d] }
  | _ => none }
def fnExactFewestMovesRow : OpenClaim := { program := "ythihphgfblonoaa", sum := "3852df26c6b53ef5d1cedd3e8b43bb8f30c42b208911f42115a753f247dd16b5", func := "loop.example/g00350/laws.FnExactFewestMoves", spec := "fnExactFewestMoves", unfollowed := true, recurses := true, apart := false }
def FnExactFewestMovesSaid : Prop := fnExactFewestMovesRow.holds Try.pinned (OpenSpec.ofChange fnExactFewestMovesSpec)

/-- ITS FALSE NEIGHBOUR: 'it returns false'. Refute it at one input. -/
def fnExactFewestMovesWrong : ChangeSpec := { name := "fnExactFewestMoves", fn := fun _ => fun
  | [d] => { results := [.lit (.bool false)], args := [d] }
  | _ => none }
def FnExactFewestMovesWrongFalsely : Prop := fnExactFewestMovesRow.holds Try.pinned (OpenSpec.ofChange fnExactFewestMovesWrong)

/-- 'laws.FnExactLayMoves': WHATEVER THE INPUT: true; the input reads as it did. -/
def fnExactLayMovesSpec : ChangeSpec := { name := "fnExactLayMoves", fn := fun _ => fun
  | [d] => { results := [.lit (.bool true)], args := [d] }
  | _ => none }
def fnExactLayMovesRow : OpenClaim := { program := "ythihphgfblonoaa", sum := "3852df26c6b53ef5d1cedd3e8b43bb8f30c42b208911f42115a753f247dd16b5", func := "loop.example/g00350/laws.FnExactLayMoves", spec := "fnExactLayMoves", unfollowed := true, recurses := true, apart := false }
def FnExactLayMovesSaid : Prop := fnExactLayMovesRow.holds Try.pinned (OpenSpec.ofChange fnExactLayMovesSpec)

/-- ITS FALSE NEIGHBOUR: 'it returns false'. Refute it at one input. -/
def fnExactLayMovesWrong : ChangeSpec := { name := "fnExactLayMoves", fn := fun _ => fun
  | [d] => { results := [.lit (.bool false)], args := [d] }
  | _ => none }
def FnExactLayMovesWrongFalsely : Prop := fnExactLayMovesRow.holds Try.pinned (OpenSpec.ofChange fnExactLayMovesWrong)

/-- 'laws.FnRings': WHATEVER THE INPUT: true; the input reads as it did. -/
def fnRingsSpec : ChangeSpec := { name := "fnRings", fn := fun _ => fun
  | [d] => { results := [.lit (.bool true)], args := [d] }
  | _ => none }
def fnRingsRow : OpenClaim := { program := "ythihphgfblonoaa", sum := "3852df26c6b53ef5d1cedd3e8b43bb8f30c42b208911f42115a753f247dd16b5", func := "loop.example/g00350/laws.FnRings", spec := "fnRings", unfollowed := true, recurses := true, apart := false }
def FnRingsSaid : Prop := fnRingsRow.holds Try.pinned (OpenSpec.ofChange fnRingsSpec)

/-- ITS FALSE NEIGHBOUR: 'it returns false'. Refute it at one input. -/
def fnRingsWrong : ChangeSpec := { name := "fnRings", fn := fun _ => fun
  | [d] => { results := [.lit (.bool false)], args := [d] }
  | _ => none }
def FnRingsWrongFalsely : Prop := fnRingsRow.holds Try.pinned (OpenSpec.ofChange fnRingsWrong)

/-- 'laws.FnMoves': WHATEVER THE INPUT: true; the input reads as it did. -/
def fnMovesSpec : ChangeSpec := { name := "fnMoves", fn := fun _ => fun
  | [d1, d2] => { results := [.lit (.bool true)], args := [d1, d2] }
  | _ => none }
def fnMovesRow : OpenClaim := { program := "ythihphgfblonoaa", sum := "3852df26c6b53ef5d1cedd3e8b43bb8f30c42b208911f42115a753f247dd16b5", func := "loop.example/g00350/laws.FnMoves", spec := "fnMoves", unfollowed := true, recurses := true, apart := false }
def FnMovesSaid : Prop := fnMovesRow.holds Try.pinned (OpenSpec.ofChange fnMovesSpec)

/-- ITS FALSE NEIGHBOUR: 'it returns false'. Refute it at one input. -/
def fnMovesWrong : ChangeSpec := { name := "fnMoves", fn := fun _ => fun
  | [d1, d2] => { results := [.lit (.bool false)], args := [d1, d2] }
  | _ => none }
def FnMovesWrongFalsely : Prop := fnMovesRow.holds Try.pinned (OpenSpec.ofChange fnMovesWrong)

/- THE SECOND FORM. 'bulk': how many values and letters a reading holds, each counted each time it is reached (what is shared counts as often as it is met; a slice's spare places count too). A statement '..UptoSaid' is the law's where the arguments, and the package variables that the reading takes, are together of bulk at most 1048576: NARROWER than '..Said'. Prove '..Said' where nothing that the law and all that it calls make is longer than what came in: it says more and counts as full. Else prove '..UptoSaid'. A law counts once. -/
mutual
def uptoBulk {H : Type} : DataW H → Nat
  | .lit (.string bytes) => bytes.length + 1
  | .lit _ => 1
  | .nil => 1
  | .ptr d => uptoBulk d + 1
  | .slice elems spare => uptoBulkAll elems + uptoBulkAll spare + 1
  | .agg parts => uptoBulkAll parts + 1
  | .iface _ d => uptoBulk d + 1
  | .map entries => uptoBulkEntries entries + 1
  | .held _ => 1
def uptoBulkAll {H : Type} : List (DataW H) → Nat
  | [] => 0
  | d :: r => uptoBulk d + uptoBulkAll r
def uptoBulkEntries {H : Type} : List (Lit × DataW H) → Nat
  | [] => 0
  | x :: r => uptoBulkEntry x + uptoBulkEntries r
def uptoBulkEntry {H : Type} : Lit × DataW H → Nat
  | (.string bytes, d) => bytes.length + uptoBulk d + 1
  | (_, d) => uptoBulk d + 1
 end
def uptoSmall : (H : Type) → List (DataW H) → Bool := fun _ ds => decide (uptoBulkAll ds ≤ 1048576)
def OpenSpec.upto (s : _root_.Go.ChangeSpec) : _root_.Go.OpenSpec := { _root_.Go.OpenSpec.ofChange s with cond := some uptoSmall }

/-- 'laws.FnExactGoodMoves', WHERE WHAT IT READS IS OF BULK AT MOST 1048576: true; the input reads as it did. -/
def fnExactGoodMovesUptoRow : OpenClaim := { program := "ythihphgfblonoaa", sum := "3852df26c6b53ef5d1cedd3e8b43bb8f30c42b208911f42115a753f247dd16b5", func := "loop.example/g00350/laws.FnExactGoodMoves", spec := "fnExactGoodMoves", apart := false, narrowed := true }
def FnExactGoodMovesUptoSaid : Prop := fnExactGoodMovesUptoRow.holds Try.pinned (OpenSpec.upto fnExactGoodMovesSpec)

/-- 'laws.FnExactDoInTurn', WHERE WHAT IT READS IS OF BULK AT MOST 1048576: true; the input reads as it did. -/
def fnExactDoInTurnUptoRow : OpenClaim := { program := "ythihphgfblonoaa", sum := "3852df26c6b53ef5d1cedd3e8b43bb8f30c42b208911f42115a753f247dd16b5", func := "loop.example/g00350/laws.FnExactDoInTurn", spec := "fnExactDoInTurn", unfollowed := true, recurses := true, apart := false, narrowed := true }
def FnExactDoInTurnUptoSaid : Prop := fnExactDoInTurnUptoRow.holds Try.pinned (OpenSpec.upto fnExactDoInTurnSpec)

/-- 'laws.FnExactNeedsSpare', WHERE WHAT IT READS IS OF BULK AT MOST 1048576: true; the input reads as it did. -/
def fnExactNeedsSpareUptoRow : OpenClaim := { program := "ythihphgfblonoaa", sum := "3852df26c6b53ef5d1cedd3e8b43bb8f30c42b208911f42115a753f247dd16b5", func := "loop.example/g00350/laws.FnExactNeedsSpare", spec := "fnExactNeedsSpare", apart := false, narrowed := true }
def FnExactNeedsSpareUptoSaid : Prop := fnExactNeedsSpareUptoRow.holds Try.pinned (OpenSpec.upto fnExactNeedsSpareSpec)

/-- 'laws.FnExactDoAtOnce', WHERE WHAT IT READS IS OF BULK AT MOST 1048576: true; the input reads as it did. -/
def fnExactDoAtOnceUptoRow : OpenClaim := { program := "ythihphgfblonoaa", sum := "3852df26c6b53ef5d1cedd3e8b43bb8f30c42b208911f42115a753f247dd16b5", func := "loop.example/g00350/laws.FnExactDoAtOnce", spec := "fnExactDoAtOnce", unfollowed := true, recurses := true, apart := false, narrowed := true }
def FnExactDoAtOnceUptoSaid : Prop := fnExactDoAtOnceUptoRow.holds Try.pinned (OpenSpec.upto fnExactDoAtOnceSpec)

/-- 'laws.FnExactRingsIn', WHERE WHAT IT READS IS OF BULK AT MOST 1048576: true; the input reads as it did. -/
def fnExactRingsInUptoRow : OpenClaim := { program := "ythihphgfblonoaa", sum := "3852df26c6b53ef5d1cedd3e8b43bb8f30c42b208911f42115a753f247dd16b5", func := "loop.example/g00350/laws.FnExactRingsIn", spec := "fnExactRingsIn", apart := false, narrowed := true }
def FnExactRingsInUptoSaid : Prop := fnExactRingsInUptoRow.holds Try.pinned (OpenSpec.upto fnExactRingsInSpec)

/-- 'laws.FnExactFewestMoves', WHERE WHAT IT READS IS OF BULK AT MOST 1048576: true; the input reads as it did. -/
def fnExactFewestMovesUptoRow : OpenClaim := { program := "ythihphgfblonoaa", sum := "3852df26c6b53ef5d1cedd3e8b43bb8f30c42b208911f42115a753f247dd16b5", func := "loop.example/g00350/laws.FnExactFewestMoves", spec := "fnExactFewestMoves", unfollowed := true, recurses := true, apart := false, narrowed := true }
def FnExactFewestMovesUptoSaid : Prop := fnExactFewestMovesUptoRow.holds Try.pinned (OpenSpec.upto fnExactFewestMovesSpec)

/-- 'laws.FnExactLayMoves', WHERE WHAT IT READS IS OF BULK AT MOST 1048576: true; the input reads as it did. -/
def fnExactLayMovesUptoRow : OpenClaim := { program := "ythihphgfblonoaa", sum := "3852df26c6b53ef5d1cedd3e8b43bb8f30c42b208911f42115a753f247dd16b5", func := "loop.example/g00350/laws.FnExactLayMoves", spec := "fnExactLayMoves", unfollowed := true, recurses := true, apart := false, narrowed := true }
def FnExactLayMovesUptoSaid : Prop := fnExactLayMovesUptoRow.holds Try.pinned (OpenSpec.upto fnExactLayMovesSpec)

/-- 'laws.FnRings', WHERE WHAT IT READS IS OF BULK AT MOST 1048576: true; the input reads as it did. -/
def fnRingsUptoRow : OpenClaim := { program := "ythihphgfblonoaa", sum := "3852df26c6b53ef5d1cedd3e8b43bb8f30c42b208911f42115a753f247dd16b5", func := "loop.example/g00350/laws.FnRings", spec := "fnRings", unfollowed := true, recurses := true, apart := false, narrowed := true }
def FnRingsUptoSaid : Prop := fnRingsUptoRow.holds Try.pinned (OpenSpec.upto fnRingsSpec)

/-- 'laws.FnMoves', WHERE WHAT IT READS IS OF BULK AT MOST 1048576: true; the input reads as it did. -/
def fnMovesUptoRow : OpenClaim := { program := "ythihphgfblonoaa", sum := "3852df26c6b53ef5d1cedd3e8b43bb8f30c42b208911f42115a753f247dd16b5", func := "loop.example/g00350/laws.FnMoves", spec := "fnMoves", unfollowed := true, recurses := true, apart := false, narrowed := true }
def FnMovesUptoSaid : Prop := fnMovesUptoRow.holds Try.pinned (OpenSpec.upto fnMovesSpec)

end Rows
end Go.Proofs.Ythihphgfblonoaa
