/- Words of sixteen bits. No condition. -/
import Derived.Test.YtdbnokeegocpbaaLInts
namespace Go.Proofs.Ytdbnokeegocpbaa.Am
open Go Go.RowKit
set_option linter.unusedSimpArgs false
set_option linter.unusedVariables false

theorem l1In_ok (x a b : Int) (H : Hp) : T Try.prog 105 [.int .i64 x, .int .i64 a, .int .i64 b] H (fun r H' => r = .bool (decide (a ≤ x ∧ x ≤ b)) ∧ H' = H) := by
  refine T.by tabOk Try.func105 (by kernel_rfl) rfl _ (by simp [Try.f105]) H _ ?_
  by_cases h1 : a ≤ x <;> by_cases h2 : x ≤ b <;> simp [Try.f105, tab, h1, h2]
theorem in_ok (x a b : Int) (H : Hp) : T Try.prog 107 [.int .i64 x, .int .i64 a, .int .i64 b] H (fun r H' => r = .bool (decide (a ≤ x ∧ x ≤ b)) ∧ H' = H) := by
  refine T.by tabOk Try.func107 (by kernel_rfl) rfl _ (by simp [Try.f107]) H _ ?_
  by_cases h1 : a ≤ x <;> by_cases h2 : x ≤ b <;> simp [Try.f107, tab, h1, h2]
theorem l1Word_ok (x : Int) (H : Hp) : T Try.prog 121 [.int .i64 x] H (fun r H' => r = .bool (decide (0 ≤ x ∧ x ≤ 65535)) ∧ H' = H) := by
  refine T.by tabOk Try.func121 (by kernel_rfl) rfl _ (by simp [Try.f121]) H _ ?_
  simp [Try.f121, tab]
  refine (l1In_ok x 0 65535 H).mono fun r K ⟨e1, e2⟩ => ?_
  subst e1 e2
  simp
theorem isWord_ok (x : Int) (H : Hp) : T Try.prog 111 [.int .i64 x] H (fun r H' => r = .bool (decide (0 ≤ x ∧ x ≤ 65535)) ∧ H' = H) := by
  refine T.by tabOk Try.func111 (by kernel_rfl) rfl _ (by simp [Try.f111]) H _ ?_
  simp [Try.f111, tab]
  refine (in_ok x 0 65535 H).mono fun r K ⟨e1, e2⟩ => ?_
  subst e1 e2
  simp
end Go.Proofs.Ytdbnokeegocpbaa.Am
