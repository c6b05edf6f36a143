/- How many bits a small number has: off the kit's shelf. No condition. -/
import Derived.Test.YtdbnokeegocpbaaLInts
import Derived.KernelRfl
import Derived.Shelf.Small.Bits
namespace Go.Proofs.Ytdbnokeegocpbaa
open Go.Shelf
def lays125_ren : Go.Shelf.Ren := ⟨fun | 125 => 134 | 128 => 169 | 129 => 170 | n => n, fun | 46 => 139 | 3 => 3 | 51 => 167 | 53 => 121 | 4 => 4 | 5 => 5 | 9 => 9 | n => n, fun | n => n⟩
theorem lays125 : Lays.n125 Try.prog lays125_ren := {
  mixed := by kernel_rfl
  f125 := Try.func134.trans (congrArg some (by kernel_rfl))
  f128 := Try.func169.trans (congrArg some (by kernel_rfl))
  f129 := Try.func170.trans (congrArg some (by kernel_rfl))
  t3 := Try.underlying3
  a3 := Try.isAgg3
  z3 := Try.sizeOf3
  v3 := Try.zeroValue3
  t4 := Try.underlying4
  a4 := Try.isAgg4
  z4 := Try.sizeOf4
  v4 := Try.zeroValue4
  t5 := Try.underlying5
  a5 := Try.isAgg5
  z5 := Try.sizeOf5
  v5 := Try.zeroValue5
  t9 := Try.underlying9
  a9 := Try.isAgg9
  z9 := Try.sizeOf9
  v9 := Try.zeroValue9
  t46 := Try.underlying139
  a46 := Try.isAgg139
  z46 := Try.sizeOf139
  v46 := Try.zeroValue139
  t51 := Try.underlying167
  a51 := Try.isAgg167
  z51 := Try.sizeOf167
  v51 := Try.zeroValue167
  t53 := Try.underlying121
  a53 := Try.isAgg121
  z53 := Try.sizeOf121
  v53 := Try.zeroValue121
  }
end Go.Proofs.Ytdbnokeegocpbaa
namespace Go.Proofs.Ytdbnokeegocpbaa.Am
open Go Go.RowKit Go.Shelf
theorem bitsLen_ok (n : Nat) (hn : n ≤ 1000) (H : Hp) : T Try.prog 134 [.int .u64 n] H (fun r K => (∃ x, r = .int .i64 x) ∧ K = H) := by
  refine ⟨⟨_, Try.func134, by kernel_rfl, by kernel_rfl⟩, fun m w vs hr hv => ?_⟩
  obtain ⟨v, vs', rfl, hv1, hv2⟩ := hv
  have hv1 : v = .int .u64 n := hv1
  have hv2 : vs' = [] := hv2
  subst hv1 hv2
  have h : Calls Try.prog 134 #[.int .u64 n] w fun e w' => e = .returned (.int .i64 (Lib.bitLen (n : Int).toNat)) ∧ w' = w := Any.bits_Len lays125 (n : Int) w (by omega) (by omega)
  refine h.mono fun e w' ⟨e1, e2⟩ => ?_
  subst e2
  exact ⟨.int .i64 (Lib.bitLen (n : Int).toNat), _, m, H, e1, rfl, Step.refl hr, ⟨_, rfl⟩, rfl⟩
end Go.Proofs.Ytdbnokeegocpbaa.Am
