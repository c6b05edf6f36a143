/- Words of sixteen bits. No condition. -/
import Derived.Test.YtmmohcledhenfaaLInts
namespace Go.Proofs.Ytmmohcledhenfaa.Am
open Go Go.RowKit
set_option linter.unusedSimpArgs false
set_option linter.unusedVariables false

theorem l1In_ok (x a b : Int) (H : Hp) : T Try.prog 47 [.int .i64 x, .int .i64 a, .int .i64 b] H (fun r H' => r = .bool (decide (a ≤ x ∧ x ≤ b)) ∧ H' = H) := by
  refine T.by tabOk Try.func47 (by kernel_rfl) rfl _ (by simp [Try.f47]) H _ ?_
  by_cases h1 : a ≤ x <;> by_cases h2 : x ≤ b <;> simp [Try.f47, tab, h1, h2]
theorem in_ok (x a b : Int) (H : Hp) : T Try.prog 57 [.int .i64 x, .int .i64 a, .int .i64 b] H (fun r H' => r = .bool (decide (a ≤ x ∧ x ≤ b)) ∧ H' = H) := by
  refine T.by tabOk Try.func57 (by kernel_rfl) rfl _ (by simp [Try.f57]) H _ ?_
  by_cases h1 : a ≤ x <;> by_cases h2 : x ≤ b <;> simp [Try.f57, tab, h1, h2]
end Go.Proofs.Ytmmohcledhenfaa.Am
