/- The law of FewestMoves. No condition. -/
import Derived.Test.YthihphgfblonoaaLLayFn
namespace Go.Proofs.Ythihphgfblonoaa.Am
open Go Go.RowKit
set_option linter.unusedVariables false

theorem law_in (H : Hp) (x0 : AV) (h0 : SSl 2 16 (SPair (SInt .i64) (SInt .i64)) H [x0]) : T Try.prog 8 [x0] H (fun r K => r = .bool true) := by
  obtain ⟨l, h1, h2⟩ := moves_open H x0 h0
  exact few_law l x0 H h2 h1
end Go.Proofs.Ythihphgfblonoaa.Am
