/- Words of sixteen bits. No condition. -/
import Derived.Test.YtdbnokeegocpbaaGreatLInts
namespace Go.Proofs.YtdbnokeegocpbaaGreat.Am
open Go Go.RowKit
set_option linter.unusedSimpArgs false
set_option linter.unusedVariables false

theorem l1In_ok (x a b : Int) (H : Hp) : T Tryz.prog 55 [.int .i64 x, .int .i64 a, .int .i64 b] H (fun r H' => r = .bool (decide (a ≤ x ∧ x ≤ b)) ∧ H' = H) := by
  refine T.by tabOk Tryz.func55 (by kernel_rfl) rfl _ (by simp [Tryz.f55]) H _ ?_
  by_cases h1 : a ≤ x <;> by_cases h2 : x ≤ b <;> simp [Tryz.f55, tab, h1, h2]
theorem in_ok (x a b : Int) (H : Hp) : T Tryz.prog 31 [.int .i64 x, .int .i64 a, .int .i64 b] H (fun r H' => r = .bool (decide (a ≤ x ∧ x ≤ b)) ∧ H' = H) := by
  refine T.by tabOk Tryz.func31 (by kernel_rfl) rfl _ (by simp [Tryz.f31]) H _ ?_
  by_cases h1 : a ≤ x <;> by_cases h2 : x ≤ b <;> simp [Tryz.f31, tab, h1, h2]
theorem l1Word_ok (x : Int) (H : Hp) : T Tryz.prog 81 [.int .i64 x] H (fun r H' => r = .bool (decide (0 ≤ x ∧ x ≤ 65535)) ∧ H' = H) := by
  refine T.by tabOk Tryz.func81 (by kernel_rfl) rfl _ (by simp [Tryz.f81]) H _ ?_
  simp [Tryz.f81, tab]
  refine (l1In_ok x 0 65535 H).mono fun r K ⟨e1, e2⟩ => ?_
  subst e1 e2
  simp
theorem isWord_ok (x : Int) (H : Hp) : T Tryz.prog 65 [.int .i64 x] H (fun r H' => r = .bool (decide (0 ≤ x ∧ x ≤ 65535)) ∧ H' = H) := by
  refine T.by tabOk Tryz.func65 (by kernel_rfl) rfl _ (by simp [Tryz.f65]) H _ ?_
  simp [Tryz.f65, tab]
  refine (in_ok x 0 65535 H).mono fun r K ⟨e1, e2⟩ => ?_
  subst e1 e2
  simp
end Go.Proofs.YtdbnokeegocpbaaGreat.Am
