/- How many bits a small number has: off the kit's shelf. No condition. -/
import Derived.Test.YtdbnokeegocpbaaGreatLInts
import Derived.KernelRfl
import Derived.Shelf.Small.Bits
namespace Go.Proofs.YtdbnokeegocpbaaGreat
open Go.Shelf
def lays125_ren : Go.Shelf.Ren := ⟨fun | 125 => 62 | 128 => 92 | 129 => 93 | n => n, fun | 46 => 88 | 3 => 3 | 51 => 112 | 53 => 64 | 4 => 4 | 5 => 5 | 9 => 9 | n => n, fun | n => n⟩
theorem lays125 : Lays.n125 Tryz.prog lays125_ren := {
  mixed := by kernel_rfl
  f125 := Tryz.func62.trans (congrArg some (by kernel_rfl))
  f128 := Tryz.func92.trans (congrArg some (by kernel_rfl))
  f129 := Tryz.func93.trans (congrArg some (by kernel_rfl))
  t3 := Tryz.underlying3
  a3 := Tryz.isAgg3
  z3 := Tryz.sizeOf3
  v3 := Tryz.zeroValue3
  t4 := Tryz.underlying4
  a4 := Tryz.isAgg4
  z4 := Tryz.sizeOf4
  v4 := Tryz.zeroValue4
  t5 := Tryz.underlying5
  a5 := Tryz.isAgg5
  z5 := Tryz.sizeOf5
  v5 := Tryz.zeroValue5
  t9 := Tryz.underlying9
  a9 := Tryz.isAgg9
  z9 := Tryz.sizeOf9
  v9 := Tryz.zeroValue9
  t46 := Tryz.underlying88
  a46 := Tryz.isAgg88
  z46 := Tryz.sizeOf88
  v46 := Tryz.zeroValue88
  t51 := Tryz.underlying112
  a51 := Tryz.isAgg112
  z51 := Tryz.sizeOf112
  v51 := Tryz.zeroValue112
  t53 := Tryz.underlying64
  a53 := Tryz.isAgg64
  z53 := Tryz.sizeOf64
  v53 := Tryz.zeroValue64
  }
end Go.Proofs.YtdbnokeegocpbaaGreat
namespace Go.Proofs.YtdbnokeegocpbaaGreat.Am
open Go Go.RowKit Go.Shelf
theorem bitsLen_ok (n : Nat) (hn : n ≤ 1000) (H : Hp) : T Tryz.prog 62 [.int .u64 n] H (fun r K => (∃ x, r = .int .i64 x) ∧ K = H) := by
  refine ⟨⟨_, Tryz.func62, by kernel_rfl, by kernel_rfl⟩, fun m w vs hr hv => ?_⟩
  obtain ⟨v, vs', rfl, hv1, hv2⟩ := hv
  have hv1 : v = .int .u64 n := hv1
  have hv2 : vs' = [] := hv2
  subst hv1 hv2
  have h : Calls Tryz.prog 62 #[.int .u64 n] w fun e w' => e = .returned (.int .i64 (Lib.bitLen (n : Int).toNat)) ∧ w' = w := Any.bits_Len lays125 (n : Int) w (by omega) (by omega)
  refine h.mono fun e w' ⟨e1, e2⟩ => ?_
  subst e2
  exact ⟨.int .i64 (Lib.bitLen (n : Int).toNat), _, m, H, e1, rfl, Step.refl hr, ⟨_, rfl⟩, rfl⟩
end Go.Proofs.YtdbnokeegocpbaaGreat.Am
