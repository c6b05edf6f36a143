/- Words of sixteen bits. No condition. -/
import Derived.Test.YtfndikfaibbjoaaLInts
namespace Go.Proofs.Ytfndikfaibbjoaa.Am
open Go Go.RowKit
set_option linter.unusedSimpArgs false
set_option linter.unusedVariables false

theorem l1In_ok (x a b : Int) (H : Hp) : T Try.prog 82 [.int .i64 x, .int .i64 a, .int .i64 b] H (fun r H' => r = .bool (decide (a ≤ x ∧ x ≤ b)) ∧ H' = H) := by
  refine T.by tabOk Try.func82 (by kernel_rfl) rfl _ (by simp [Try.f82]) H _ ?_
  by_cases h1 : a ≤ x <;> by_cases h2 : x ≤ b <;> simp [Try.f82, tab, h1, h2]
theorem in_ok (x a b : Int) (H : Hp) : T Try.prog 85 [.int .i64 x, .int .i64 a, .int .i64 b] H (fun r H' => r = .bool (decide (a ≤ x ∧ x ≤ b)) ∧ H' = H) := by
  refine T.by tabOk Try.func85 (by kernel_rfl) rfl _ (by simp [Try.f85]) H _ ?_
  by_cases h1 : a ≤ x <;> by_cases h2 : x ≤ b <;> simp [Try.f85, tab, h1, h2]
theorem l1Word_ok (x : Int) (H : Hp) : T Try.prog 81 [.int .i64 x] H (fun r H' => r = .bool (decide (0 ≤ x ∧ x ≤ 65535)) ∧ H' = H) := by
  refine T.by tabOk Try.func81 (by kernel_rfl) rfl _ (by simp [Try.f81]) H _ ?_
  simp [Try.f81, tab]
  refine (l1In_ok x 0 65535 H).mono fun r K ⟨e1, e2⟩ => ?_
  subst e1 e2
  simp
theorem isWord_ok (x : Int) (H : Hp) : T Try.prog 84 [.int .i64 x] H (fun r H' => r = .bool (decide (0 ≤ x ∧ x ≤ 65535)) ∧ H' = H) := by
  refine T.by tabOk Try.func84 (by kernel_rfl) rfl _ (by simp [Try.f84]) H _ ?_
  simp [Try.f84, tab]
  refine (in_ok x 0 65535 H).mono fun r K ⟨e1, e2⟩ => ?_
  subst e1 e2
  simp
end Go.Proofs.Ytfndikfaibbjoaa.Am
