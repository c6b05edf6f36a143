/- What an op tells of two words. No condition. -/
import Derived.Test.YtdbnokeegocpbaaGreatLRunMath
import Derived.Test.YtdbnokeegocpbaaGreatLWords
namespace Go.Proofs.YtdbnokeegocpbaaGreat.Am
open Go Go.RowKit
set_option linter.unusedSimpArgs false
set_option linter.unusedVariables false

theorem and16 (n : Int) : IntKind.i64.wrap (((n % 2 ^ IntKind.i64.bits).toNat &&& 65535 % 2 ^ IntKind.i64.bits : Nat) : Int) = n % 65536 := by
  have e : 65535 % 2 ^ IntKind.i64.bits = 2 ^ 16 - 1 := by decide
  rw [e, Nat.and_two_pow_sub_one_eq_mod]
  have e2 : (2 : Int) ^ IntKind.i64.bits = 18446744073709551616 := by decide
  rw [e2]
  have h1 : (((n % 18446744073709551616).toNat % 2 ^ 16 : Nat) : Int) = n % 65536 := by omega
  rw [h1]
  exact wrap64 (by omega) (by omega)
theorem wrap_mod (n : Int) : IntKind.i64.wrap n % 65536 = n % 65536 := by
  unfold IntKind.wrap
  simp [IntKind.bits, IntKind.signed]
  split <;> omega
set_option maxRecDepth 100000 in
theorem reckon_ok (op a b : Int) (H : Hp) (ho : 3 ≤ op ∧ op ≤ 7) : T Tryz.prog 80 [.int .i64 op, .int .i64 a, .int .i64 b] H (fun r K => r = .int .i64 (doI op a b) ∧ K = H) := by
  refine T.by tabOk Tryz.func80 (by kernel_rfl) rfl _ (by simp [Tryz.f80]) H _ ?_
  have o : op = 3 ∨ op = 4 ∨ op = 5 ∨ op = 6 ∨ op = 7 := by omega
  rcases o with rfl | rfl | rfl | rfl | rfl
  · simp [Tryz.f80, tab, doI, and16, wrap_mod]
  · simp [Tryz.f80, tab, doI, and16, wrap_mod]
  · simp [Tryz.f80, tab, doI, and16, wrap_mod]
  · by_cases h : a < b <;> simp [Tryz.f80, tab, doI, h]
  · by_cases h : a = b <;> simp [Tryz.f80, tab, doI, h]
theorem l3Bit_ok (b : Bool) (H : Hp) : T Tryz.prog 101 [.bool b] H (fun r K => r = .int .i64 (if b = true then 1 else 0) ∧ K = H) := by
  refine T.by tabOk Tryz.func101 (by kernel_rfl) rfl _ (by simp [Tryz.f101]) H _ ?_
  cases b <;> simp [Tryz.f101, tab]
set_option maxRecDepth 100000 in
theorem l3Do_ok (op a b : Int) (H : Hp) (ho : 3 ≤ op ∧ op ≤ 7) : T Tryz.prog 82 [.int .i64 op, .int .i64 a, .int .i64 b] H (fun r K => r = .int .i64 (doI op a b) ∧ K = H) := by
  refine T.by tabOk Tryz.func82 (by kernel_rfl) rfl _ (by simp [Tryz.f82]) H _ ?_
  have o : op = 3 ∨ op = 4 ∨ op = 5 ∨ op = 6 ∨ op = 7 := by omega
  rcases o with rfl | rfl | rfl | rfl | rfl
  · simp [Tryz.f82, tab, doI, and16, wrap_mod]
  · simp [Tryz.f82, tab, doI, and16, wrap_mod]
  · simp [Tryz.f82, tab, doI, and16, wrap_mod]
  · simp [Tryz.f82, tab, doI]
    refine (l3Bit_ok _ _).mono fun r K ⟨e1, e2⟩ => ?_
    subst e1 e2
    simp
  · simp [Tryz.f82, tab, doI]
    refine (l3Bit_ok _ _).mono fun r K ⟨e1, e2⟩ => ?_
    subst e1 e2
    simp
end Go.Proofs.YtdbnokeegocpbaaGreat.Am
