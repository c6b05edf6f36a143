/-
  No cell of these rows narrows 'for every input' (looked for: loops, veiled, ifaces, maps, wideKeys, modest, calm, conditions, laid).
  DERIVED. THE GIVEN ROWS OF THIS SEAT. 10 by the template 'for every input the law returns true; each argument reads behind the call as it read before'; 0 by the template 'total and deterministic' (their statements: YtcadaadoodpnmaaTotals.lean).
  GIVEN WITH THE SEED: the statements are not yours to turn. If you find one false, say at which input.
  Laid BY PROGRAM, IN A SANDBOX (cutbox-rows.mjs): the forced cells as the released guide's own fill.sh prints them over the translation d7368045f3c25f7d… (all of the seat's roots in one cut). By AI agents, Wed Nov 11 2026. No macro, syntax, notation, axiom, sorry.
-/
import Derived.Test.YtcadaadoodpnmaaChecked
import GoSem.Claim
import GoSem.ClaimJoined
import GoSem.ClaimMapViews
import Derived.JoinedTies
import Derived.KernelRfl
namespace Go.Proofs.Ytcadaadoodpnmaa
/- THE CELL 'sum', in the pinned program and in every row, IS THE sha256 OF THE DUMP (.gsa) THAT YtcadaadoodpnmaaProg.lean LOADS. Nothing in Lean hashes anything: it is a label: what it is worth is what the hold of that sum in a sandbox is worth. -/
noncomputable def Try.pinned : Pinned := { name := "ytcadaadoodpnmaa", sum := "d7368045f3c25f7d50a55405153a2857cad4ca5ec8b91ce092eafce72fae47c1", checked := Try.checked }
namespace Rows
def none {H : Type} : Left H := { results := [], args := [] }

/-- 'laws.FnExactGoodTasks': WHATEVER THE INPUT: true; the input reads as it did. -/
def fnExactGoodTasksSpec : ChangeSpec := { name := "fnExactGoodTasks", fn := fun _ => fun
  | [d] => { results := [.lit (.bool true)], args := [d] }
  | _ => none }
def fnExactGoodTasksRow : OpenClaim := { program := "ytcadaadoodpnmaa", sum := "d7368045f3c25f7d50a55405153a2857cad4ca5ec8b91ce092eafce72fae47c1", func := "loop.example/g00350/laws.FnExactGoodTasks", spec := "fnExactGoodTasks", apart := false }
def FnExactGoodTasksSaid : Prop := fnExactGoodTasksRow.holds Try.pinned (OpenSpec.ofChange fnExactGoodTasksSpec)

/-- ITS FALSE NEIGHBOUR: 'it returns false'. Refute it at one input. -/
def fnExactGoodTasksWrong : ChangeSpec := { name := "fnExactGoodTasks", fn := fun _ => fun
  | [d] => { results := [.lit (.bool false)], args := [d] }
  | _ => none }
def FnExactGoodTasksWrongFalsely : Prop := fnExactGoodTasksRow.holds Try.pinned (OpenSpec.ofChange fnExactGoodTasksWrong)

/-- 'laws.FnExactWorkOf': WHATEVER THE INPUT: true; the input reads as it did. -/
def fnExactWorkOfSpec : ChangeSpec := { name := "fnExactWorkOf", fn := fun _ => fun
  | [d] => { results := [.lit (.bool true)], args := [d] }
  | _ => none }
def fnExactWorkOfRow : OpenClaim := { program := "ytcadaadoodpnmaa", sum := "d7368045f3c25f7d50a55405153a2857cad4ca5ec8b91ce092eafce72fae47c1", func := "loop.example/g00350/laws.FnExactWorkOf", spec := "fnExactWorkOf", apart := false }
def FnExactWorkOfSaid : Prop := fnExactWorkOfRow.holds Try.pinned (OpenSpec.ofChange fnExactWorkOfSpec)

/-- ITS FALSE NEIGHBOUR: 'it returns false'. Refute it at one input. -/
def fnExactWorkOfWrong : ChangeSpec := { name := "fnExactWorkOf", fn := fun _ => fun
  | [d] => { results := [.lit (.bool false)], args := [d] }
  | _ => none }
def FnExactWorkOfWrongFalsely : Prop := fnExactWorkOfRow.holds Try.pinned (OpenSpec.ofChange fnExactWorkOfWrong)

/-- 'laws.FnExactLongestChain': WHATEVER THE INPUT: true; the input reads as it did. -/
def fnExactLongestChainSpec : ChangeSpec := { name := "fnExactLongestChain", fn := fun _ => fun
  | [d] => { results := [.lit (.bool true)], args := [d] }
  | _ => none }
def fnExactLongestChainRow : OpenClaim := { program := "ytcadaadoodpnmaa", sum := "d7368045f3c25f7d50a55405153a2857cad4ca5ec8b91ce092eafce72fae47c1", func := "loop.example/g00350/laws.FnExactLongestChain", spec := "fnExactLongestChain", apart := false }
def FnExactLongestChainSaid : Prop := fnExactLongestChainRow.holds Try.pinned (OpenSpec.ofChange fnExactLongestChainSpec)

/-- ITS FALSE NEIGHBOUR: 'it returns false'. Refute it at one input. -/
def fnExactLongestChainWrong : ChangeSpec := { name := "fnExactLongestChain", fn := fun _ => fun
  | [d] => { results := [.lit (.bool false)], args := [d] }
  | _ => none }
def FnExactLongestChainWrongFalsely : Prop := fnExactLongestChainRow.holds Try.pinned (OpenSpec.ofChange fnExactLongestChainWrong)

/-- 'laws.FnExactIsSchedule': WHATEVER THE INPUT: true; the input reads as it did. -/
def fnExactIsScheduleSpec : ChangeSpec := { name := "fnExactIsSchedule", fn := fun _ => fun
  | [d1, d2, d3] => { results := [.lit (.bool true)], args := [d1, d2, d3] }
  | _ => none }
def fnExactIsScheduleRow : OpenClaim := { program := "ytcadaadoodpnmaa", sum := "d7368045f3c25f7d50a55405153a2857cad4ca5ec8b91ce092eafce72fae47c1", func := "loop.example/g00350/laws.FnExactIsSchedule", spec := "fnExactIsSchedule", unfollowed := true, recurses := true, apart := false }
def FnExactIsScheduleSaid : Prop := fnExactIsScheduleRow.holds Try.pinned (OpenSpec.ofChange fnExactIsScheduleSpec)

/-- ITS FALSE NEIGHBOUR: 'it returns false'. Refute it at one input. -/
def fnExactIsScheduleWrong : ChangeSpec := { name := "fnExactIsSchedule", fn := fun _ => fun
  | [d1, d2, d3] => { results := [.lit (.bool false)], args := [d1, d2, d3] }
  | _ => none }
def FnExactIsScheduleWrongFalsely : Prop := fnExactIsScheduleRow.holds Try.pinned (OpenSpec.ofChange fnExactIsScheduleWrong)

/-- 'laws.FnExactRanksOf': WHATEVER THE INPUT: true; the input reads as it did. -/
def fnExactRanksOfSpec : ChangeSpec := { name := "fnExactRanksOf", fn := fun _ => fun
  | [d] => { results := [.lit (.bool true)], args := [d] }
  | _ => none }
def fnExactRanksOfRow : OpenClaim := { program := "ytcadaadoodpnmaa", sum := "d7368045f3c25f7d50a55405153a2857cad4ca5ec8b91ce092eafce72fae47c1", func := "loop.example/g00350/laws.FnExactRanksOf", spec := "fnExactRanksOf", apart := false }
def FnExactRanksOfSaid : Prop := fnExactRanksOfRow.holds Try.pinned (OpenSpec.ofChange fnExactRanksOfSpec)

/-- ITS FALSE NEIGHBOUR: 'it returns false'. Refute it at one input. -/
def fnExactRanksOfWrong : ChangeSpec := { name := "fnExactRanksOf", fn := fun _ => fun
  | [d] => { results := [.lit (.bool false)], args := [d] }
  | _ => none }
def FnExactRanksOfWrongFalsely : Prop := fnExactRanksOfRow.holds Try.pinned (OpenSpec.ofChange fnExactRanksOfWrong)

/-- 'laws.FnExactLeastTime': WHATEVER THE INPUT: true; the input reads as it did. -/
def fnExactLeastTimeSpec : ChangeSpec := { name := "fnExactLeastTime", fn := fun _ => fun
  | [d1, d2] => { results := [.lit (.bool true)], args := [d1, d2] }
  | _ => none }
def fnExactLeastTimeRow : OpenClaim := { program := "ytcadaadoodpnmaa", sum := "d7368045f3c25f7d50a55405153a2857cad4ca5ec8b91ce092eafce72fae47c1", func := "loop.example/g00350/laws.FnExactLeastTime", spec := "fnExactLeastTime", apart := false }
def FnExactLeastTimeSaid : Prop := fnExactLeastTimeRow.holds Try.pinned (OpenSpec.ofChange fnExactLeastTimeSpec)

/-- ITS FALSE NEIGHBOUR: 'it returns false'. Refute it at one input. -/
def fnExactLeastTimeWrong : ChangeSpec := { name := "fnExactLeastTime", fn := fun _ => fun
  | [d1, d2] => { results := [.lit (.bool false)], args := [d1, d2] }
  | _ => none }
def FnExactLeastTimeWrongFalsely : Prop := fnExactLeastTimeRow.holds Try.pinned (OpenSpec.ofChange fnExactLeastTimeWrong)

/-- 'laws.FnExactListTimes': WHATEVER THE INPUT: true; the input reads as it did. -/
def fnExactListTimesSpec : ChangeSpec := { name := "fnExactListTimes", fn := fun _ => fun
  | [d1, d2, d3] => { results := [.lit (.bool true)], args := [d1, d2, d3] }
  | _ => none }
def fnExactListTimesRow : OpenClaim := { program := "ytcadaadoodpnmaa", sum := "d7368045f3c25f7d50a55405153a2857cad4ca5ec8b91ce092eafce72fae47c1", func := "loop.example/g00350/laws.FnExactListTimes", spec := "fnExactListTimes", unfollowed := true, recurses := true, apart := false }
def FnExactListTimesSaid : Prop := fnExactListTimesRow.holds Try.pinned (OpenSpec.ofChange fnExactListTimesSpec)

/-- ITS FALSE NEIGHBOUR: 'it returns false'. Refute it at one input. -/
def fnExactListTimesWrong : ChangeSpec := { name := "fnExactListTimes", fn := fun _ => fun
  | [d1, d2, d3] => { results := [.lit (.bool false)], args := [d1, d2, d3] }
  | _ => none }
def FnExactListTimesWrongFalsely : Prop := fnExactListTimesRow.holds Try.pinned (OpenSpec.ofChange fnExactListTimesWrong)

/-- 'laws.FnExactRankOrder': WHATEVER THE INPUT: true; the input reads as it did. -/
def fnExactRankOrderSpec : ChangeSpec := { name := "fnExactRankOrder", fn := fun _ => fun
  | [d] => { results := [.lit (.bool true)], args := [d] }
  | _ => none }
def fnExactRankOrderRow : OpenClaim := { program := "ytcadaadoodpnmaa", sum := "d7368045f3c25f7d50a55405153a2857cad4ca5ec8b91ce092eafce72fae47c1", func := "loop.example/g00350/laws.FnExactRankOrder", spec := "fnExactRankOrder", unfollowed := true, recurses := true, apart := false }
def FnExactRankOrderSaid : Prop := fnExactRankOrderRow.holds Try.pinned (OpenSpec.ofChange fnExactRankOrderSpec)

/-- ITS FALSE NEIGHBOUR: 'it returns false'. Refute it at one input. -/
def fnExactRankOrderWrong : ChangeSpec := { name := "fnExactRankOrder", fn := fun _ => fun
  | [d] => { results := [.lit (.bool false)], args := [d] }
  | _ => none }
def FnExactRankOrderWrongFalsely : Prop := fnExactRankOrderRow.holds Try.pinned (OpenSpec.ofChange fnExactRankOrderWrong)

/-- 'laws.FnSchedule': WHATEVER THE INPUT: true; the input reads as it did. -/
def fnScheduleSpec : ChangeSpec := { name := "fnSchedule", fn := fun _ => fun
  | [d1, d2] => { results := [.lit (.bool true)], args := [d1, d2] }
  | _ => none }
def fnScheduleRow : OpenClaim := { program := "ytcadaadoodpnmaa", sum := "d7368045f3c25f7d50a55405153a2857cad4ca5ec8b91ce092eafce72fae47c1", func := "loop.example/g00350/laws.FnSchedule", spec := "fnSchedule", unfollowed := true, recurses := true, apart := false }
def FnScheduleSaid : Prop := fnScheduleRow.holds Try.pinned (OpenSpec.ofChange fnScheduleSpec)

/-- ITS FALSE NEIGHBOUR: 'it returns false'. Refute it at one input. -/
def fnScheduleWrong : ChangeSpec := { name := "fnSchedule", fn := fun _ => fun
  | [d1, d2] => { results := [.lit (.bool false)], args := [d1, d2] }
  | _ => none }
def FnScheduleWrongFalsely : Prop := fnScheduleRow.holds Try.pinned (OpenSpec.ofChange fnScheduleWrong)

/-- 'laws.FnRanks': WHATEVER THE INPUT: true; the input reads as it did. -/
def fnRanksSpec : ChangeSpec := { name := "fnRanks", fn := fun _ => fun
  | [d1, d2] => { results := [.lit (.bool true)], args := [d1, d2] }
  | _ => none }
def fnRanksRow : OpenClaim := { program := "ytcadaadoodpnmaa", sum := "d7368045f3c25f7d50a55405153a2857cad4ca5ec8b91ce092eafce72fae47c1", func := "loop.example/g00350/laws.FnRanks", spec := "fnRanks", unfollowed := true, recurses := true, apart := false }
def FnRanksSaid : Prop := fnRanksRow.holds Try.pinned (OpenSpec.ofChange fnRanksSpec)

/-- ITS FALSE NEIGHBOUR: 'it returns false'. Refute it at one input. -/
def fnRanksWrong : ChangeSpec := { name := "fnRanks", fn := fun _ => fun
  | [d1, d2] => { results := [.lit (.bool false)], args := [d1, d2] }
  | _ => none }
def FnRanksWrongFalsely : Prop := fnRanksRow.holds Try.pinned (OpenSpec.ofChange fnRanksWrong)

/- THE SECOND FORM. 'bulk': how many values and letters a reading holds, each counted each time it is reached (what is shared counts as often as it is met; a slice's spare places count too). A statement '..UptoSaid' is the law's where the arguments, and the package variables that the reading takes, are together of bulk at most 1048576: NARROWER than '..Said'. Prove '..Said' where nothing that the law and all that it calls make is longer than what came in: it says more and counts as full. Else prove '..UptoSaid'. A law counts once. -/
mutual
def uptoBulk {H : Type} : DataW H → Nat
  | .lit (.string bytes) => bytes.length + 1
  | .lit _ => 1
  | .nil => 1
  | .ptr d => uptoBulk d + 1
  | .slice elems spare => uptoBulkAll elems + uptoBulkAll spare + 1
  | .agg parts => uptoBulkAll parts + 1
  | .iface _ d => uptoBulk d + 1
  | .map entries => uptoBulkEntries entries + 1
  | .held _ => 1
def uptoBulkAll {H : Type} : List (DataW H) → Nat
  | [] => 0
  | d :: r => uptoBulk d + uptoBulkAll r
def uptoBulkEntries {H : Type} : List (Lit × DataW H) → Nat
  | [] => 0
  | x :: r => uptoBulkEntry x + uptoBulkEntries r
def uptoBulkEntry {H : Type} : Lit × DataW H → Nat
  | (.string bytes, d) => bytes.length + uptoBulk d + 1
  | (_, d) => uptoBulk d + 1
 end
def uptoSmall : (H : Type) → List (DataW H) → Bool := fun _ ds => decide (uptoBulkAll ds ≤ 1048576)
def OpenSpec.upto (s : _root_.Go.ChangeSpec) : _root_.Go.OpenSpec := { _root_.Go.OpenSpec.ofChange s with cond := some uptoSmall }

/-- 'laws.FnExactGoodTasks', WHERE WHAT IT READS IS OF BULK AT MOST 1048576: true; the input reads as it did. -/
def fnExactGoodTasksUptoRow : OpenClaim := { program := "ytcadaadoodpnmaa", sum := "d7368045f3c25f7d50a55405153a2857cad4ca5ec8b91ce092eafce72fae47c1", func := "loop.example/g00350/laws.FnExactGoodTasks", spec := "fnExactGoodTasks", apart := false, narrowed := true }
def FnExactGoodTasksUptoSaid : Prop := fnExactGoodTasksUptoRow.holds Try.pinned (OpenSpec.upto fnExactGoodTasksSpec)

/-- 'laws.FnExactWorkOf', WHERE WHAT IT READS IS OF BULK AT MOST 1048576: true; the input reads as it did. -/
def fnExactWorkOfUptoRow : OpenClaim := { program := "ytcadaadoodpnmaa", sum := "d7368045f3c25f7d50a55405153a2857cad4ca5ec8b91ce092eafce72fae47c1", func := "loop.example/g00350/laws.FnExactWorkOf", spec := "fnExactWorkOf", apart := false, narrowed := true }
def FnExactWorkOfUptoSaid : Prop := fnExactWorkOfUptoRow.holds Try.pinned (OpenSpec.upto fnExactWorkOfSpec)

/-- 'laws.FnExactLongestChain', WHERE WHAT IT READS IS OF BULK AT MOST 1048576: true; the input reads as it did. -/
def fnExactLongestChainUptoRow : OpenClaim := { program := "ytcadaadoodpnmaa", sum := "d7368045f3c25f7d50a55405153a2857cad4ca5ec8b91ce092eafce72fae47c1", func := "loop.example/g00350/laws.FnExactLongestChain", spec := "fnExactLongestChain", apart := false, narrowed := true }
def FnExactLongestChainUptoSaid : Prop := fnExactLongestChainUptoRow.holds Try.pinned (OpenSpec.upto fnExactLongestChainSpec)

/-- 'laws.FnExactIsSchedule', WHERE WHAT IT READS IS OF BULK AT MOST 1048576: true; the input reads as it did. -/
def fnExactIsScheduleUptoRow : OpenClaim := { program := "ytcadaadoodpnmaa", sum := "d7368045f3c25f7d50a55405153a2857cad4ca5ec8b91ce092eafce72fae47c1", func := "loop.example/g00350/laws.FnExactIsSchedule", spec := "fnExactIsSchedule", unfollowed := true, recurses := true, apart := false, narrowed := true }
def FnExactIsScheduleUptoSaid : Prop := fnExactIsScheduleUptoRow.holds Try.pinned (OpenSpec.upto fnExactIsScheduleSpec)

/-- 'laws.FnExactRanksOf', WHERE WHAT IT READS IS OF BULK AT MOST 1048576: true; the input reads as it did. -/
def fnExactRanksOfUptoRow : OpenClaim := { program := "ytcadaadoodpnmaa", sum := "d7368045f3c25f7d50a55405153a2857cad4ca5ec8b91ce092eafce72fae47c1", func := "loop.example/g00350/laws.FnExactRanksOf", spec := "fnExactRanksOf", apart := false, narrowed := true }
def FnExactRanksOfUptoSaid : Prop := fnExactRanksOfUptoRow.holds Try.pinned (OpenSpec.upto fnExactRanksOfSpec)

/-- 'laws.FnExactLeastTime', WHERE WHAT IT READS IS OF BULK AT MOST 1048576: true; the input reads as it did. -/
def fnExactLeastTimeUptoRow : OpenClaim := { program := "ytcadaadoodpnmaa", sum := "d7368045f3c25f7d50a55405153a2857cad4ca5ec8b91ce092eafce72fae47c1", func := "loop.example/g00350/laws.FnExactLeastTime", spec := "fnExactLeastTime", apart := false, narrowed := true }
def FnExactLeastTimeUptoSaid : Prop := fnExactLeastTimeUptoRow.holds Try.pinned (OpenSpec.upto fnExactLeastTimeSpec)

/-- 'laws.FnExactListTimes', WHERE WHAT IT READS IS OF BULK AT MOST 1048576: true; the input reads as it did. -/
def fnExactListTimesUptoRow : OpenClaim := { program := "ytcadaadoodpnmaa", sum := "d7368045f3c25f7d50a55405153a2857cad4ca5ec8b91ce092eafce72fae47c1", func := "loop.example/g00350/laws.FnExactListTimes", spec := "fnExactListTimes", unfollowed := true, recurses := true, apart := false, narrowed := true }
def FnExactListTimesUptoSaid : Prop := fnExactListTimesUptoRow.holds Try.pinned (OpenSpec.upto fnExactListTimesSpec)

/-- 'laws.FnExactRankOrder', WHERE WHAT IT READS IS OF BULK AT MOST 1048576: true; the input reads as it did. -/
def fnExactRankOrderUptoRow : OpenClaim := { program := "ytcadaadoodpnmaa", sum := "d7368045f3c25f7d50a55405153a2857cad4ca5ec8b91ce092eafce72fae47c1", func := "loop.example/g00350/laws.FnExactRankOrder", spec := "fnExactRankOrder", unfollowed := true, recurses := true, apart := false, narrowed := true }
def FnExactRankOrderUptoSaid : Prop := fnExactRankOrderUptoRow.holds Try.pinned (OpenSpec.upto fnExactRankOrderSpec)

/-- 'laws.FnSchedule', WHERE WHAT IT READS IS OF BULK AT MOST 1048576: true; the input reads as it did. -/
def fnScheduleUptoRow : OpenClaim := { program := "ytcadaadoodpnmaa", sum := "d7368045f3c25f7d50a55405153a2857cad4ca5ec8b91ce092eafce72fae47c1", func := "loop.example/g00350/laws.FnSchedule", spec := "fnSchedule", unfollowed := true, recurses := true, apart := false, narrowed := true }
def FnScheduleUptoSaid : Prop := fnScheduleUptoRow.holds Try.pinned (OpenSpec.upto fnScheduleSpec)

/-- 'laws.FnRanks', WHERE WHAT IT READS IS OF BULK AT MOST 1048576: true; the input reads as it did. -/
def fnRanksUptoRow : OpenClaim := { program := "ytcadaadoodpnmaa", sum := "d7368045f3c25f7d50a55405153a2857cad4ca5ec8b91ce092eafce72fae47c1", func := "loop.example/g00350/laws.FnRanks", spec := "fnRanks", unfollowed := true, recurses := true, apart := false, narrowed := true }
def FnRanksUptoSaid : Prop := fnRanksUptoRow.holds Try.pinned (OpenSpec.upto fnRanksSpec)

end Rows
end Go.Proofs.Ytcadaadoodpnmaa
