/-
  No cell of these rows narrows 'for every input' (looked for: loops, veiled, ifaces, maps, wideKeys, modest, calm, conditions, laid).
  DERIVED. THE GIVEN ROWS OF THIS SEAT. 8 by the template 'for every input the law returns true; each argument reads behind the call as it read before'; 0 by the template 'total and deterministic' (their statements: YtmmohcledhenfaaTotals.lean).
  GIVEN WITH THE SEED: the statements are not yours to turn. If you find one false, say at which input.
  Laid BY PROGRAM, IN A SANDBOX (cutbox-rows.mjs): the forced cells as the released guide's own fill.sh prints them over the translation a974cc37d942f490… (all of the seat's roots in one cut). By AI agents, Wed Nov 11 2026. No macro, syntax, notation, axiom, sorry.
-/
import Derived.Test.YtmmohcledhenfaaChecked
import GoSem.Claim
import GoSem.ClaimJoined
import GoSem.ClaimMapViews
import Derived.JoinedTies
import Derived.KernelRfl
namespace Go.Proofs.Ytmmohcledhenfaa
/- THE CELL 'sum', in the pinned program and in every row, IS THE sha256 OF THE DUMP (.gsa) THAT YtmmohcledhenfaaProg.lean LOADS. Nothing in Lean hashes anything: it is a label: what it is worth is what the hold of that sum in a sandbox is worth. -/
noncomputable def Try.pinned : Pinned := { name := "ytmmohcledhenfaa", sum := "a974cc37d942f49090309e290a667b85ef78b9b288f04812fb063e3098499594", checked := Try.checked }
namespace Rows
def none {H : Type} : Left H := { results := [], args := [] }

/-- 'laws.FnExactIsLayout': WHATEVER THE INPUT: true; the input reads as it did. -/
def fnExactIsLayoutSpec : ChangeSpec := { name := "fnExactIsLayout", fn := fun _ => fun
  | [d1, d2] => { results := [.lit (.bool true)], args := [d1, d2] }
  | _ => none }
def fnExactIsLayoutRow : OpenClaim := { program := "ytmmohcledhenfaa", sum := "a974cc37d942f49090309e290a667b85ef78b9b288f04812fb063e3098499594", func := "loop.example/g00350/laws.FnExactIsLayout", spec := "fnExactIsLayout", apart := false }
def FnExactIsLayoutSaid : Prop := fnExactIsLayoutRow.holds Try.pinned (OpenSpec.ofChange fnExactIsLayoutSpec)

/-- ITS FALSE NEIGHBOUR: 'it returns false'. Refute it at one input. -/
def fnExactIsLayoutWrong : ChangeSpec := { name := "fnExactIsLayout", fn := fun _ => fun
  | [d1, d2] => { results := [.lit (.bool false)], args := [d1, d2] }
  | _ => none }
def FnExactIsLayoutWrongFalsely : Prop := fnExactIsLayoutRow.holds Try.pinned (OpenSpec.ofChange fnExactIsLayoutWrong)

/-- 'laws.FnExactGoodEdges': WHATEVER THE INPUT: true; the input reads as it did. -/
def fnExactGoodEdgesSpec : ChangeSpec := { name := "fnExactGoodEdges", fn := fun _ => fun
  | [d1, d2] => { results := [.lit (.bool true)], args := [d1, d2] }
  | _ => none }
def fnExactGoodEdgesRow : OpenClaim := { program := "ytmmohcledhenfaa", sum := "a974cc37d942f49090309e290a667b85ef78b9b288f04812fb063e3098499594", func := "loop.example/g00350/laws.FnExactGoodEdges", spec := "fnExactGoodEdges", apart := false }
def FnExactGoodEdgesSaid : Prop := fnExactGoodEdgesRow.holds Try.pinned (OpenSpec.ofChange fnExactGoodEdgesSpec)

/-- ITS FALSE NEIGHBOUR: 'it returns false'. Refute it at one input. -/
def fnExactGoodEdgesWrong : ChangeSpec := { name := "fnExactGoodEdges", fn := fun _ => fun
  | [d1, d2] => { results := [.lit (.bool false)], args := [d1, d2] }
  | _ => none }
def FnExactGoodEdgesWrongFalsely : Prop := fnExactGoodEdgesRow.holds Try.pinned (OpenSpec.ofChange fnExactGoodEdgesWrong)

/-- 'laws.FnExactGoodTree': WHATEVER THE INPUT: true; the input reads as it did. -/
def fnExactGoodTreeSpec : ChangeSpec := { name := "fnExactGoodTree", fn := fun _ => fun
  | [d] => { results := [.lit (.bool true)], args := [d] }
  | _ => none }
def fnExactGoodTreeRow : OpenClaim := { program := "ytmmohcledhenfaa", sum := "a974cc37d942f49090309e290a667b85ef78b9b288f04812fb063e3098499594", func := "loop.example/g00350/laws.FnExactGoodTree", spec := "fnExactGoodTree", apart := false }
def FnExactGoodTreeSaid : Prop := fnExactGoodTreeRow.holds Try.pinned (OpenSpec.ofChange fnExactGoodTreeSpec)

/-- ITS FALSE NEIGHBOUR: 'it returns false'. Refute it at one input. -/
def fnExactGoodTreeWrong : ChangeSpec := { name := "fnExactGoodTree", fn := fun _ => fun
  | [d] => { results := [.lit (.bool false)], args := [d] }
  | _ => none }
def FnExactGoodTreeWrongFalsely : Prop := fnExactGoodTreeRow.holds Try.pinned (OpenSpec.ofChange fnExactGoodTreeWrong)

/-- 'laws.FnExactGoodPatterns': WHATEVER THE INPUT: true; the input reads as it did. -/
def fnExactGoodPatternsSpec : ChangeSpec := { name := "fnExactGoodPatterns", fn := fun _ => fun
  | [d] => { results := [.lit (.bool true)], args := [d] }
  | _ => none }
def fnExactGoodPatternsRow : OpenClaim := { program := "ytmmohcledhenfaa", sum := "a974cc37d942f49090309e290a667b85ef78b9b288f04812fb063e3098499594", func := "loop.example/g00350/laws.FnExactGoodPatterns", spec := "fnExactGoodPatterns", unfollowed := true, recurses := true, apart := false }
def FnExactGoodPatternsSaid : Prop := fnExactGoodPatternsRow.holds Try.pinned (OpenSpec.ofChange fnExactGoodPatternsSpec)

/-- ITS FALSE NEIGHBOUR: 'it returns false'. Refute it at one input. -/
def fnExactGoodPatternsWrong : ChangeSpec := { name := "fnExactGoodPatterns", fn := fun _ => fun
  | [d] => { results := [.lit (.bool false)], args := [d] }
  | _ => none }
def FnExactGoodPatternsWrongFalsely : Prop := fnExactGoodPatternsRow.holds Try.pinned (OpenSpec.ofChange fnExactGoodPatternsWrong)

/-- 'laws.FnExactFitsAt': WHATEVER THE INPUT: true; the input reads as it did. -/
def fnExactFitsAtSpec : ChangeSpec := { name := "fnExactFitsAt", fn := fun _ => fun
  | [d1, d2, d3] => { results := [.lit (.bool true)], args := [d1, d2, d3] }
  | _ => none }
def fnExactFitsAtRow : OpenClaim := { program := "ytmmohcledhenfaa", sum := "a974cc37d942f49090309e290a667b85ef78b9b288f04812fb063e3098499594", func := "loop.example/g00350/laws.FnExactFitsAt", spec := "fnExactFitsAt", apart := false }
def FnExactFitsAtSaid : Prop := fnExactFitsAtRow.holds Try.pinned (OpenSpec.ofChange fnExactFitsAtSpec)

/-- ITS FALSE NEIGHBOUR: 'it returns false'. Refute it at one input. -/
def fnExactFitsAtWrong : ChangeSpec := { name := "fnExactFitsAt", fn := fun _ => fun
  | [d1, d2, d3] => { results := [.lit (.bool false)], args := [d1, d2, d3] }
  | _ => none }
def FnExactFitsAtWrongFalsely : Prop := fnExactFitsAtRow.holds Try.pinned (OpenSpec.ofChange fnExactFitsAtWrong)

/-- 'laws.FnFits': WHATEVER THE INPUT: true; the input reads as it did. -/
def fnFitsSpec : ChangeSpec := { name := "fnFits", fn := fun _ => fun
  | [d] => { results := [.lit (.bool true)], args := [d] }
  | _ => none }
def fnFitsRow : OpenClaim := { program := "ytmmohcledhenfaa", sum := "a974cc37d942f49090309e290a667b85ef78b9b288f04812fb063e3098499594", func := "loop.example/g00350/laws.FnFits", spec := "fnFits", recurses := true, apart := false }
def FnFitsSaid : Prop := fnFitsRow.holds Try.pinned (OpenSpec.ofChange fnFitsSpec)

/-- ITS FALSE NEIGHBOUR: 'it returns false'. Refute it at one input. -/
def fnFitsWrong : ChangeSpec := { name := "fnFits", fn := fun _ => fun
  | [d] => { results := [.lit (.bool false)], args := [d] }
  | _ => none }
def FnFitsWrongFalsely : Prop := fnFitsRow.holds Try.pinned (OpenSpec.ofChange fnFitsWrong)

/-- 'laws.FnExactCostAt': WHATEVER THE INPUT: true; the input reads as it did. -/
def fnExactCostAtSpec : ChangeSpec := { name := "fnExactCostAt", fn := fun _ => fun
  | [d1, d2, d3] => { results := [.lit (.bool true)], args := [d1, d2, d3] }
  | _ => none }
def fnExactCostAtRow : OpenClaim := { program := "ytmmohcledhenfaa", sum := "a974cc37d942f49090309e290a667b85ef78b9b288f04812fb063e3098499594", func := "loop.example/g00350/laws.FnExactCostAt", spec := "fnExactCostAt", unfollowed := true, recurses := true, apart := false }
def FnExactCostAtSaid : Prop := fnExactCostAtRow.holds Try.pinned (OpenSpec.ofChange fnExactCostAtSpec)

/-- ITS FALSE NEIGHBOUR: 'it returns false'. Refute it at one input. -/
def fnExactCostAtWrong : ChangeSpec := { name := "fnExactCostAt", fn := fun _ => fun
  | [d1, d2, d3] => { results := [.lit (.bool false)], args := [d1, d2, d3] }
  | _ => none }
def FnExactCostAtWrongFalsely : Prop := fnExactCostAtRow.holds Try.pinned (OpenSpec.ofChange fnExactCostAtWrong)

/-- 'laws.FnExactIsCover': WHATEVER THE INPUT: true; the input reads as it did. -/
def fnExactIsCoverSpec : ChangeSpec := { name := "fnExactIsCover", fn := fun _ => fun
  | [d1, d2, d3] => { results := [.lit (.bool true)], args := [d1, d2, d3] }
  | _ => none }
def fnExactIsCoverRow : OpenClaim := { program := "ytmmohcledhenfaa", sum := "a974cc37d942f49090309e290a667b85ef78b9b288f04812fb063e3098499594", func := "loop.example/g00350/laws.FnExactIsCover", spec := "fnExactIsCover", unfollowed := true, recurses := true, apart := false }
def FnExactIsCoverSaid : Prop := fnExactIsCoverRow.holds Try.pinned (OpenSpec.ofChange fnExactIsCoverSpec)

/-- ITS FALSE NEIGHBOUR: 'it returns false'. Refute it at one input. -/
def fnExactIsCoverWrong : ChangeSpec := { name := "fnExactIsCover", fn := fun _ => fun
  | [d1, d2, d3] => { results := [.lit (.bool false)], args := [d1, d2, d3] }
  | _ => none }
def FnExactIsCoverWrongFalsely : Prop := fnExactIsCoverRow.holds Try.pinned (OpenSpec.ofChange fnExactIsCoverWrong)

/- THE SECOND FORM. 'bulk': how many values and letters a reading holds, each counted each time it is reached (what is shared counts as often as it is met; a slice's spare places count too). A statement '..UptoSaid' is the law's where the arguments, and the package variables that the reading takes, are together of bulk at most 1048576: NARROWER than '..Said'. Prove '..Said' where nothing that the law and all that it calls make is longer than what came in: it says more and counts as full. Else prove '..UptoSaid'. A law counts once. -/
mutual
def uptoBulk {H : Type} : DataW H → Nat
  | .lit (.string bytes) => bytes.length + 1
  | .lit _ => 1
  | .nil => 1
  | .ptr d => uptoBulk d + 1
  | .slice elems spare => uptoBulkAll elems + uptoBulkAll spare + 1
  | .agg parts => uptoBulkAll parts + 1
  | .iface _ d => uptoBulk d + 1
  | .map entries => uptoBulkEntries entries + 1
  | .held _ => 1
def uptoBulkAll {H : Type} : List (DataW H) → Nat
  | [] => 0
  | d :: r => uptoBulk d + uptoBulkAll r
def uptoBulkEntries {H : Type} : List (Lit × DataW H) → Nat
  | [] => 0
  | x :: r => uptoBulkEntry x + uptoBulkEntries r
def uptoBulkEntry {H : Type} : Lit × DataW H → Nat
  | (.string bytes, d) => bytes.length + uptoBulk d + 1
  | (_, d) => uptoBulk d + 1
 end
def uptoSmall : (H : Type) → List (DataW H) → Bool := fun _ ds => decide (uptoBulkAll ds ≤ 1048576)
def OpenSpec.upto (s : _root_.Go.ChangeSpec) : _root_.Go.OpenSpec := { _root_.Go.OpenSpec.ofChange s with cond := some uptoSmall }

/-- 'laws.FnExactIsLayout', WHERE WHAT IT READS IS OF BULK AT MOST 1048576: true; the input reads as it did. -/
def fnExactIsLayoutUptoRow : OpenClaim := { program := "ytmmohcledhenfaa", sum := "a974cc37d942f49090309e290a667b85ef78b9b288f04812fb063e3098499594", func := "loop.example/g00350/laws.FnExactIsLayout", spec := "fnExactIsLayout", apart := false, narrowed := true }
def FnExactIsLayoutUptoSaid : Prop := fnExactIsLayoutUptoRow.holds Try.pinned (OpenSpec.upto fnExactIsLayoutSpec)

/-- 'laws.FnExactGoodEdges', WHERE WHAT IT READS IS OF BULK AT MOST 1048576: true; the input reads as it did. -/
def fnExactGoodEdgesUptoRow : OpenClaim := { program := "ytmmohcledhenfaa", sum := "a974cc37d942f49090309e290a667b85ef78b9b288f04812fb063e3098499594", func := "loop.example/g00350/laws.FnExactGoodEdges", spec := "fnExactGoodEdges", apart := false, narrowed := true }
def FnExactGoodEdgesUptoSaid : Prop := fnExactGoodEdgesUptoRow.holds Try.pinned (OpenSpec.upto fnExactGoodEdgesSpec)

/-- 'laws.FnExactGoodTree', WHERE WHAT IT READS IS OF BULK AT MOST 1048576: true; the input reads as it did. -/
def fnExactGoodTreeUptoRow : OpenClaim := { program := "ytmmohcledhenfaa", sum := "a974cc37d942f49090309e290a667b85ef78b9b288f04812fb063e3098499594", func := "loop.example/g00350/laws.FnExactGoodTree", spec := "fnExactGoodTree", apart := false, narrowed := true }
def FnExactGoodTreeUptoSaid : Prop := fnExactGoodTreeUptoRow.holds Try.pinned (OpenSpec.upto fnExactGoodTreeSpec)

/-- 'laws.FnExactGoodPatterns', WHERE WHAT IT READS IS OF BULK AT MOST 1048576: true; the input reads as it did. -/
def fnExactGoodPatternsUptoRow : OpenClaim := { program := "ytmmohcledhenfaa", sum := "a974cc37d942f49090309e290a667b85ef78b9b288f04812fb063e3098499594", func := "loop.example/g00350/laws.FnExactGoodPatterns", spec := "fnExactGoodPatterns", unfollowed := true, recurses := true, apart := false, narrowed := true }
def FnExactGoodPatternsUptoSaid : Prop := fnExactGoodPatternsUptoRow.holds Try.pinned (OpenSpec.upto fnExactGoodPatternsSpec)

/-- 'laws.FnExactFitsAt', WHERE WHAT IT READS IS OF BULK AT MOST 1048576: true; the input reads as it did. -/
def fnExactFitsAtUptoRow : OpenClaim := { program := "ytmmohcledhenfaa", sum := "a974cc37d942f49090309e290a667b85ef78b9b288f04812fb063e3098499594", func := "loop.example/g00350/laws.FnExactFitsAt", spec := "fnExactFitsAt", apart := false, narrowed := true }
def FnExactFitsAtUptoSaid : Prop := fnExactFitsAtUptoRow.holds Try.pinned (OpenSpec.upto fnExactFitsAtSpec)

/-- 'laws.FnFits', WHERE WHAT IT READS IS OF BULK AT MOST 1048576: true; the input reads as it did. -/
def fnFitsUptoRow : OpenClaim := { program := "ytmmohcledhenfaa", sum := "a974cc37d942f49090309e290a667b85ef78b9b288f04812fb063e3098499594", func := "loop.example/g00350/laws.FnFits", spec := "fnFits", recurses := true, apart := false, narrowed := true }
def FnFitsUptoSaid : Prop := fnFitsUptoRow.holds Try.pinned (OpenSpec.upto fnFitsSpec)

/-- 'laws.FnExactCostAt', WHERE WHAT IT READS IS OF BULK AT MOST 1048576: true; the input reads as it did. -/
def fnExactCostAtUptoRow : OpenClaim := { program := "ytmmohcledhenfaa", sum := "a974cc37d942f49090309e290a667b85ef78b9b288f04812fb063e3098499594", func := "loop.example/g00350/laws.FnExactCostAt", spec := "fnExactCostAt", unfollowed := true, recurses := true, apart := false, narrowed := true }
def FnExactCostAtUptoSaid : Prop := fnExactCostAtUptoRow.holds Try.pinned (OpenSpec.upto fnExactCostAtSpec)

/-- 'laws.FnExactIsCover', WHERE WHAT IT READS IS OF BULK AT MOST 1048576: true; the input reads as it did. -/
def fnExactIsCoverUptoRow : OpenClaim := { program := "ytmmohcledhenfaa", sum := "a974cc37d942f49090309e290a667b85ef78b9b288f04812fb063e3098499594", func := "loop.example/g00350/laws.FnExactIsCover", spec := "fnExactIsCover", unfollowed := true, recurses := true, apart := false, narrowed := true }
def FnExactIsCoverUptoSaid : Prop := fnExactIsCoverUptoRow.holds Try.pinned (OpenSpec.upto fnExactIsCoverSpec)

end Rows
end Go.Proofs.Ytmmohcledhenfaa
