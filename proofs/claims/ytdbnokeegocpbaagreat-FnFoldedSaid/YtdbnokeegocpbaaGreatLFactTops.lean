/- The functions of facts, as the laws call them. No condition. -/
import Derived.Test.YtdbnokeegocpbaaGreatLFactAll
namespace Go.Proofs.YtdbnokeegocpbaaGreat.Am
open Go Go.RowKit
set_option linter.unusedSimpArgs false
set_option linter.unusedVariables false

open Classical in
noncomputable def flowRes (ways : Bool) (f : List Bk) (vars : List Fct) : List (List Fct) × Bool := if GoodF f ∧ GoodFs vars then (flowF ways f vars, true) else ([], false)
def GridAt (ways : Bool) (f : List Bk) (vars : List Fct) (H : Hp) (r : AV) (K : Hp) : Prop := ∃ v, r = .tup [v, .bool (flowRes ways f vars).2] ∧ (∃ us, GOwn Fct.enc K v (flowRes ways f vars).1 us) ∧ Fr H K
end Go.Proofs.YtdbnokeegocpbaaGreat.Am
