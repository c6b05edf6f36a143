/- How many bits a small number has: off the kit's shelf. No condition. -/
import Derived.Test.YtdbnokeegocpbaaGreatLInts
import Derived.Shelf.Lay
import Derived.Shelf.LaySoft
import Derived.Shelf.Small.Bits
import Derived.Ground.Names2Prog
namespace Go.Proofs.YtdbnokeegocpbaaGreat
open Go.Shelf
shelf_lay Lays.n125 Nm 125 at Tryz as lays125
end Go.Proofs.YtdbnokeegocpbaaGreat
namespace Go.Proofs.YtdbnokeegocpbaaGreat.Am
open Go Go.RowKit Go.Shelf
theorem bitsLen_ok (n : Nat) (hn : n ≤ 1000) (H : Hp) : T Tryz.prog 62 [.int .u64 n] H (fun r K => (∃ x, r = .int .i64 x) ∧ K = H) := by
  refine ⟨⟨_, Tryz.func62, by kernel_rfl, by kernel_rfl⟩, fun m w vs hr hv => ?_⟩
  obtain ⟨v, vs', rfl, hv1, hv2⟩ := hv
  have hv1 : v = .int .u64 n := hv1
  have hv2 : vs' = [] := hv2
  subst hv1 hv2
  have h : Calls Tryz.prog 62 #[.int .u64 n] w fun e w' => e = .returned (.int .i64 (Lib.bitLen (n : Int).toNat)) ∧ w' = w := Any.bits_Len lays125 (n : Int) w (by omega) (by omega)
  refine h.mono fun e w' ⟨e1, e2⟩ => ?_
  subst e2
  exact ⟨.int .i64 (Lib.bitLen (n : Int).toNat), _, m, H, e1, rfl, Step.refl hr, ⟨_, rfl⟩, rfl⟩
end Go.Proofs.YtdbnokeegocpbaaGreat.Am
