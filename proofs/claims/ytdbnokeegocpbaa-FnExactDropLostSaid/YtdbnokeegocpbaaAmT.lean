/- The types of the seat Ytdbnokeegocpbaa for the abstract heap. No condition. -/
import Derived.Test.YtdbnokeegocpbaaAm12
import Derived.Test.YtdbnokeegocpbaaProg
import Derived.KernelRfl
namespace Go.Proofs.Ytdbnokeegocpbaa.Am
open Go Go.RowKit
theorem tyOk {P : Program} {t : TypeId} {k : TyK} {n b : Nat} {zero : List AV} {eq : Bool} {z : Value} {d : TypeDesc} (h : (P.info? t).map (fun i => (i.zero, i.size, i.bytes)) = some (some z, n, b)) (h1 : z.cells.size = n) (h2 : VRs [] zero z.cells.toList) (h3 : ∀ a ∈ zero, a.one = true) (hd : P.underlying t = some d) (hk : kindOk d k) (he : eq = true → P.stoodInHeld t = false ∧ P.eqGuardType P.depth t = false ∧ namesOk P t = true) : TyOk P t ⟨k, n, b, zero, eq⟩ := by
  cases hi : P.info? t with
  | none => rw [hi] at h; cases h
  | some i =>
    rw [hi] at h
    simp at h
    obtain ⟨e1, e2, e3⟩ := h
    exact ⟨⟨i, z, hi, e2, e3, e1, by omega, h2⟩, h3, ⟨d, hd, hk⟩, he⟩
theorem VRs_rep {m : List Place} (n : Nat) (a : AV) (v : Value) (h : VR m a v) : VRs m (List.replicate n a) (Value.agg (List.replicate n v).toArray).cells.toList := by
  show VRs m _ (List.replicate n v).toArray.toList
  induction n with
  | zero => rfl
  | succ n ih => exact ⟨v, List.replicate n v, by simp [List.replicate_succ], h, by simpa using ih⟩
theorem one_rep (n : Nat) (a : AV) (h : a.one = true) : ∀ b ∈ List.replicate n a, b.one = true := by
  intro b hb
  rw [List.eq_of_mem_replicate hb]
  exact h
theorem mixed : Try.prog.follows .mixedOrders = true := by kernel_rfl
def tab : Tab
  | 2 => some ⟨.int .i64, 1, 8, [.int .i64 0], false⟩
  | 3 => some ⟨.int .i64, 1, 8, [.int .i64 0], false⟩
  | 4 => some ⟨.bool, 1, 1, [.bool false], false⟩
  | 5 => some ⟨.int .u8, 1, 1, [.int .u8 0], false⟩
  | 12 => some ⟨.int .u64, 1, 8, [.int .u64 0], false⟩
  | 21 => some ⟨.int .i32, 1, 4, [.int .i32 0], false⟩
  | 22 => some ⟨.slice 93, 1, 24, [.nil], false⟩
  | 24 => some ⟨.slice 67, 1, 24, [.nil], false⟩
  | 25 => some ⟨.slice 3, 1, 24, [.nil], false⟩
  | 34 => some ⟨.slice 104, 1, 24, [.nil], false⟩
  | 38 => some ⟨.slice 102, 1, 24, [.nil], false⟩
  | 44 => some ⟨.slice 25, 1, 24, [.nil], false⟩
  | 51 => some ⟨.slice 5, 1, 24, [.nil], false⟩
  | 52 => some ⟨.slice 62, 1, 24, [.nil], false⟩
  | 55 => some ⟨.slice 52, 1, 24, [.nil], false⟩
  | 61 => some ⟨.struct [(0, 4), (1, 4), (2, 3)], 3, 16, [.bool false, .bool false, .int .i64 0], true⟩
  | 62 => some ⟨.struct [(0, 4), (1, 4), (2, 3)], 3, 16, [.bool false, .bool false, .int .i64 0], true⟩
  | 66 => some ⟨.struct [(0, 38), (1, 3), (2, 3), (3, 3)], 4, 48, [.nil, .int .i64 0, .int .i64 0, .int .i64 0], false⟩
  | 67 => some ⟨.struct [(0, 38), (1, 3), (2, 3), (3, 3)], 4, 48, [.nil, .int .i64 0, .int .i64 0, .int .i64 0], false⟩
  | 85 => some ⟨.slice 133, 1, 24, [.nil], false⟩
  | 92 => some ⟨.struct [(0, 34), (1, 3), (2, 3), (3, 3)], 4, 48, [.nil, .int .i64 0, .int .i64 0, .int .i64 0], false⟩
  | 93 => some ⟨.struct [(0, 34), (1, 3), (2, 3), (3, 3)], 4, 48, [.nil, .int .i64 0, .int .i64 0, .int .i64 0], false⟩
  | 101 => some ⟨.struct [(0, 3), (1, 3), (2, 3), (3, 3), (4, 3)], 5, 40, [.int .i64 0, .int .i64 0, .int .i64 0, .int .i64 0, .int .i64 0], true⟩
  | 102 => some ⟨.struct [(0, 3), (1, 3), (2, 3), (3, 3), (4, 3)], 5, 40, [.int .i64 0, .int .i64 0, .int .i64 0, .int .i64 0, .int .i64 0], true⟩
  | 104 => some ⟨.struct [(0, 3), (1, 3), (2, 3), (3, 3), (4, 3)], 5, 40, [.int .i64 0, .int .i64 0, .int .i64 0, .int .i64 0, .int .i64 0], true⟩
  | 106 => some ⟨.arr 8 4, 8, 8, List.replicate 8 (.bool false), true⟩
  | 121 => some ⟨.int .u64, 1, 8, [.int .u64 0], false⟩
  | 122 => some ⟨.struct [(0, 51), (1, 3), (2, 121)], 3, 40, [.nil, .int .i64 0, .int .u64 0], false⟩
  | 123 => some ⟨.struct [(0, 51), (1, 3), (2, 121)], 3, 40, [.nil, .int .i64 0, .int .u64 0], false⟩
  | 133 => some ⟨.struct [(0, 4), (1, 4), (2, 3)], 3, 16, [.bool false, .bool false, .int .i64 0], true⟩
  | 139 => some ⟨.int .u64, 1, 8, [.int .u64 0], false⟩
  | 144 => some ⟨.slice 106, 1, 24, [.nil], false⟩
  | 158 => some ⟨.int .i64, 1, 8, [.int .i64 0], false⟩
  | 167 => some ⟨.int .u32, 1, 4, [.int .u32 0], false⟩
  | 174 => some ⟨.int .u64, 1, 8, [.int .u64 0], false⟩
  | _ => none
theorem ty2 : TyOk Try.prog 2 ⟨.int .i64, 1, 8, [.int .i64 0], false⟩ := tyOk (z := .int .i64 0) (by kernel_rfl) rfl ⟨_, _, rfl, rfl, rfl⟩ (by simp [AV.one]) Try.underlying2 rfl (fun h => by cases h)
theorem ty3 : TyOk Try.prog 3 ⟨.int .i64, 1, 8, [.int .i64 0], false⟩ := tyOk (z := .int .i64 0) (by kernel_rfl) rfl ⟨_, _, rfl, rfl, rfl⟩ (by simp [AV.one]) Try.underlying3 rfl (fun h => by cases h)
theorem ty4 : TyOk Try.prog 4 ⟨.bool, 1, 1, [.bool false], false⟩ := tyOk (z := .bool false) (by kernel_rfl) rfl ⟨_, _, rfl, rfl, rfl⟩ (by simp [AV.one]) Try.underlying4 rfl (fun h => by cases h)
theorem ty5 : TyOk Try.prog 5 ⟨.int .u8, 1, 1, [.int .u8 0], false⟩ := tyOk (z := .int .u8 0) (by kernel_rfl) rfl ⟨_, _, rfl, rfl, rfl⟩ (by simp [AV.one]) Try.underlying5 rfl (fun h => by cases h)
theorem ty12 : TyOk Try.prog 12 ⟨.int .u64, 1, 8, [.int .u64 0], false⟩ := tyOk (z := .int .u64 0) (by kernel_rfl) rfl ⟨_, _, rfl, rfl, rfl⟩ (by simp [AV.one]) Try.underlying12 rfl (fun h => by cases h)
theorem ty21 : TyOk Try.prog 21 ⟨.int .i32, 1, 4, [.int .i32 0], false⟩ := tyOk (z := .int .i32 0) (by kernel_rfl) rfl ⟨_, _, rfl, rfl, rfl⟩ (by simp [AV.one]) Try.underlying21 rfl (fun h => by cases h)
theorem ty22 : TyOk Try.prog 22 ⟨.slice 93, 1, 24, [.nil], false⟩ := tyOk (z := .slice none 0 0) (by kernel_rfl) rfl ⟨_, _, rfl, ⟨none, rfl⟩, rfl⟩ (by simp [AV.one]) Try.underlying22 rfl (fun h => by cases h)
theorem ty24 : TyOk Try.prog 24 ⟨.slice 67, 1, 24, [.nil], false⟩ := tyOk (z := .slice none 0 0) (by kernel_rfl) rfl ⟨_, _, rfl, ⟨none, rfl⟩, rfl⟩ (by simp [AV.one]) Try.underlying24 rfl (fun h => by cases h)
theorem ty25 : TyOk Try.prog 25 ⟨.slice 3, 1, 24, [.nil], false⟩ := tyOk (z := .slice none 0 0) (by kernel_rfl) rfl ⟨_, _, rfl, ⟨none, rfl⟩, rfl⟩ (by simp [AV.one]) Try.underlying25 rfl (fun h => by cases h)
theorem ty34 : TyOk Try.prog 34 ⟨.slice 104, 1, 24, [.nil], false⟩ := tyOk (z := .slice none 0 0) (by kernel_rfl) rfl ⟨_, _, rfl, ⟨none, rfl⟩, rfl⟩ (by simp [AV.one]) Try.underlying34 rfl (fun h => by cases h)
theorem ty38 : TyOk Try.prog 38 ⟨.slice 102, 1, 24, [.nil], false⟩ := tyOk (z := .slice none 0 0) (by kernel_rfl) rfl ⟨_, _, rfl, ⟨none, rfl⟩, rfl⟩ (by simp [AV.one]) Try.underlying38 rfl (fun h => by cases h)
theorem ty44 : TyOk Try.prog 44 ⟨.slice 25, 1, 24, [.nil], false⟩ := tyOk (z := .slice none 0 0) (by kernel_rfl) rfl ⟨_, _, rfl, ⟨none, rfl⟩, rfl⟩ (by simp [AV.one]) Try.underlying44 rfl (fun h => by cases h)
theorem ty51 : TyOk Try.prog 51 ⟨.slice 5, 1, 24, [.nil], false⟩ := tyOk (z := .slice none 0 0) (by kernel_rfl) rfl ⟨_, _, rfl, ⟨none, rfl⟩, rfl⟩ (by simp [AV.one]) Try.underlying51 rfl (fun h => by cases h)
theorem ty52 : TyOk Try.prog 52 ⟨.slice 62, 1, 24, [.nil], false⟩ := tyOk (z := .slice none 0 0) (by kernel_rfl) rfl ⟨_, _, rfl, ⟨none, rfl⟩, rfl⟩ (by simp [AV.one]) Try.underlying52 rfl (fun h => by cases h)
theorem ty55 : TyOk Try.prog 55 ⟨.slice 52, 1, 24, [.nil], false⟩ := tyOk (z := .slice none 0 0) (by kernel_rfl) rfl ⟨_, _, rfl, ⟨none, rfl⟩, rfl⟩ (by simp [AV.one]) Try.underlying55 rfl (fun h => by cases h)
theorem ty61 : TyOk Try.prog 61 ⟨.struct [(0, 4), (1, 4), (2, 3)], 3, 16, [.bool false, .bool false, .int .i64 0], true⟩ := tyOk (z := .agg #[.bool false, .bool false, .int .i64 0]) (by kernel_rfl) rfl ⟨_, _, rfl, rfl, ⟨_, _, rfl, rfl, ⟨_, _, rfl, rfl, rfl⟩⟩⟩ (by simp [AV.one]) Try.underlying61 ⟨_, rfl, rfl⟩ (fun _ => ⟨by kernel_rfl, by kernel_rfl, by kernel_rfl⟩)
theorem ty62 : TyOk Try.prog 62 ⟨.struct [(0, 4), (1, 4), (2, 3)], 3, 16, [.bool false, .bool false, .int .i64 0], true⟩ := tyOk (z := .agg #[.bool false, .bool false, .int .i64 0]) (by kernel_rfl) rfl ⟨_, _, rfl, rfl, ⟨_, _, rfl, rfl, ⟨_, _, rfl, rfl, rfl⟩⟩⟩ (by simp [AV.one]) Try.underlying62 ⟨_, rfl, rfl⟩ (fun _ => ⟨by kernel_rfl, by kernel_rfl, by kernel_rfl⟩)
theorem ty66 : TyOk Try.prog 66 ⟨.struct [(0, 38), (1, 3), (2, 3), (3, 3)], 4, 48, [.nil, .int .i64 0, .int .i64 0, .int .i64 0], false⟩ := tyOk (z := .agg #[.slice none 0 0, .int .i64 0, .int .i64 0, .int .i64 0]) (by kernel_rfl) rfl ⟨_, _, rfl, ⟨none, rfl⟩, ⟨_, _, rfl, rfl, ⟨_, _, rfl, rfl, ⟨_, _, rfl, rfl, rfl⟩⟩⟩⟩ (by simp [AV.one]) Try.underlying66 ⟨_, rfl, rfl⟩ (fun h => by cases h)
theorem ty67 : TyOk Try.prog 67 ⟨.struct [(0, 38), (1, 3), (2, 3), (3, 3)], 4, 48, [.nil, .int .i64 0, .int .i64 0, .int .i64 0], false⟩ := tyOk (z := .agg #[.slice none 0 0, .int .i64 0, .int .i64 0, .int .i64 0]) (by kernel_rfl) rfl ⟨_, _, rfl, ⟨none, rfl⟩, ⟨_, _, rfl, rfl, ⟨_, _, rfl, rfl, ⟨_, _, rfl, rfl, rfl⟩⟩⟩⟩ (by simp [AV.one]) Try.underlying67 ⟨_, rfl, rfl⟩ (fun h => by cases h)
theorem ty85 : TyOk Try.prog 85 ⟨.slice 133, 1, 24, [.nil], false⟩ := tyOk (z := .slice none 0 0) (by kernel_rfl) rfl ⟨_, _, rfl, ⟨none, rfl⟩, rfl⟩ (by simp [AV.one]) Try.underlying85 rfl (fun h => by cases h)
theorem ty92 : TyOk Try.prog 92 ⟨.struct [(0, 34), (1, 3), (2, 3), (3, 3)], 4, 48, [.nil, .int .i64 0, .int .i64 0, .int .i64 0], false⟩ := tyOk (z := .agg #[.slice none 0 0, .int .i64 0, .int .i64 0, .int .i64 0]) (by kernel_rfl) rfl ⟨_, _, rfl, ⟨none, rfl⟩, ⟨_, _, rfl, rfl, ⟨_, _, rfl, rfl, ⟨_, _, rfl, rfl, rfl⟩⟩⟩⟩ (by simp [AV.one]) Try.underlying92 ⟨_, rfl, rfl⟩ (fun h => by cases h)
theorem ty93 : TyOk Try.prog 93 ⟨.struct [(0, 34), (1, 3), (2, 3), (3, 3)], 4, 48, [.nil, .int .i64 0, .int .i64 0, .int .i64 0], false⟩ := tyOk (z := .agg #[.slice none 0 0, .int .i64 0, .int .i64 0, .int .i64 0]) (by kernel_rfl) rfl ⟨_, _, rfl, ⟨none, rfl⟩, ⟨_, _, rfl, rfl, ⟨_, _, rfl, rfl, ⟨_, _, rfl, rfl, rfl⟩⟩⟩⟩ (by simp [AV.one]) Try.underlying93 ⟨_, rfl, rfl⟩ (fun h => by cases h)
theorem ty101 : TyOk Try.prog 101 ⟨.struct [(0, 3), (1, 3), (2, 3), (3, 3), (4, 3)], 5, 40, [.int .i64 0, .int .i64 0, .int .i64 0, .int .i64 0, .int .i64 0], true⟩ := tyOk (z := .agg #[.int .i64 0, .int .i64 0, .int .i64 0, .int .i64 0, .int .i64 0]) (by kernel_rfl) rfl ⟨_, _, rfl, rfl, ⟨_, _, rfl, rfl, ⟨_, _, rfl, rfl, ⟨_, _, rfl, rfl, ⟨_, _, rfl, rfl, rfl⟩⟩⟩⟩⟩ (by simp [AV.one]) Try.underlying101 ⟨_, rfl, rfl⟩ (fun _ => ⟨by kernel_rfl, by kernel_rfl, by kernel_rfl⟩)
theorem ty102 : TyOk Try.prog 102 ⟨.struct [(0, 3), (1, 3), (2, 3), (3, 3), (4, 3)], 5, 40, [.int .i64 0, .int .i64 0, .int .i64 0, .int .i64 0, .int .i64 0], true⟩ := tyOk (z := .agg #[.int .i64 0, .int .i64 0, .int .i64 0, .int .i64 0, .int .i64 0]) (by kernel_rfl) rfl ⟨_, _, rfl, rfl, ⟨_, _, rfl, rfl, ⟨_, _, rfl, rfl, ⟨_, _, rfl, rfl, ⟨_, _, rfl, rfl, rfl⟩⟩⟩⟩⟩ (by simp [AV.one]) Try.underlying102 ⟨_, rfl, rfl⟩ (fun _ => ⟨by kernel_rfl, by kernel_rfl, by kernel_rfl⟩)
theorem ty104 : TyOk Try.prog 104 ⟨.struct [(0, 3), (1, 3), (2, 3), (3, 3), (4, 3)], 5, 40, [.int .i64 0, .int .i64 0, .int .i64 0, .int .i64 0, .int .i64 0], true⟩ := tyOk (z := .agg #[.int .i64 0, .int .i64 0, .int .i64 0, .int .i64 0, .int .i64 0]) (by kernel_rfl) rfl ⟨_, _, rfl, rfl, ⟨_, _, rfl, rfl, ⟨_, _, rfl, rfl, ⟨_, _, rfl, rfl, ⟨_, _, rfl, rfl, rfl⟩⟩⟩⟩⟩ (by simp [AV.one]) Try.underlying104 ⟨_, rfl, rfl⟩ (fun _ => ⟨by kernel_rfl, by kernel_rfl, by kernel_rfl⟩)
theorem ty106 : TyOk Try.prog 106 ⟨.arr 8 4, 8, 8, List.replicate 8 (.bool false), true⟩ := tyOk (z := .agg (List.replicate 8 (.bool false)).toArray) (by kernel_rfl) rfl (VRs_rep _ _ _ (by simp [VR])) (one_rep _ _ rfl) Try.underlying106 rfl (fun _ => ⟨by kernel_rfl, by kernel_rfl, by kernel_rfl⟩)
theorem ty121 : TyOk Try.prog 121 ⟨.int .u64, 1, 8, [.int .u64 0], false⟩ := tyOk (z := .int .u64 0) (by kernel_rfl) rfl ⟨_, _, rfl, rfl, rfl⟩ (by simp [AV.one]) Try.underlying121 rfl (fun h => by cases h)
theorem ty122 : TyOk Try.prog 122 ⟨.struct [(0, 51), (1, 3), (2, 121)], 3, 40, [.nil, .int .i64 0, .int .u64 0], false⟩ := tyOk (z := .agg #[.slice none 0 0, .int .i64 0, .int .u64 0]) (by kernel_rfl) rfl ⟨_, _, rfl, ⟨none, rfl⟩, ⟨_, _, rfl, rfl, ⟨_, _, rfl, rfl, rfl⟩⟩⟩ (by simp [AV.one]) Try.underlying122 ⟨_, rfl, rfl⟩ (fun h => by cases h)
theorem ty123 : TyOk Try.prog 123 ⟨.struct [(0, 51), (1, 3), (2, 121)], 3, 40, [.nil, .int .i64 0, .int .u64 0], false⟩ := tyOk (z := .agg #[.slice none 0 0, .int .i64 0, .int .u64 0]) (by kernel_rfl) rfl ⟨_, _, rfl, ⟨none, rfl⟩, ⟨_, _, rfl, rfl, ⟨_, _, rfl, rfl, rfl⟩⟩⟩ (by simp [AV.one]) Try.underlying123 ⟨_, rfl, rfl⟩ (fun h => by cases h)
theorem ty133 : TyOk Try.prog 133 ⟨.struct [(0, 4), (1, 4), (2, 3)], 3, 16, [.bool false, .bool false, .int .i64 0], true⟩ := tyOk (z := .agg #[.bool false, .bool false, .int .i64 0]) (by kernel_rfl) rfl ⟨_, _, rfl, rfl, ⟨_, _, rfl, rfl, ⟨_, _, rfl, rfl, rfl⟩⟩⟩ (by simp [AV.one]) Try.underlying133 ⟨_, rfl, rfl⟩ (fun _ => ⟨by kernel_rfl, by kernel_rfl, by kernel_rfl⟩)
theorem ty139 : TyOk Try.prog 139 ⟨.int .u64, 1, 8, [.int .u64 0], false⟩ := tyOk (z := .int .u64 0) (by kernel_rfl) rfl ⟨_, _, rfl, rfl, rfl⟩ (by simp [AV.one]) Try.underlying139 rfl (fun h => by cases h)
theorem ty144 : TyOk Try.prog 144 ⟨.slice 106, 1, 24, [.nil], false⟩ := tyOk (z := .slice none 0 0) (by kernel_rfl) rfl ⟨_, _, rfl, ⟨none, rfl⟩, rfl⟩ (by simp [AV.one]) Try.underlying144 rfl (fun h => by cases h)
theorem ty158 : TyOk Try.prog 158 ⟨.int .i64, 1, 8, [.int .i64 0], false⟩ := tyOk (z := .int .i64 0) (by kernel_rfl) rfl ⟨_, _, rfl, rfl, rfl⟩ (by simp [AV.one]) Try.underlying158 rfl (fun h => by cases h)
theorem ty167 : TyOk Try.prog 167 ⟨.int .u32, 1, 4, [.int .u32 0], false⟩ := tyOk (z := .int .u32 0) (by kernel_rfl) rfl ⟨_, _, rfl, rfl, rfl⟩ (by simp [AV.one]) Try.underlying167 rfl (fun h => by cases h)
theorem ty174 : TyOk Try.prog 174 ⟨.int .u64, 1, 8, [.int .u64 0], false⟩ := tyOk (z := .int .u64 0) (by kernel_rfl) rfl ⟨_, _, rfl, rfl, rfl⟩ (by simp [AV.one]) Try.underlying174 rfl (fun h => by cases h)
theorem tabOk : TabOk Try.prog tab := by
  intro t ty h
  unfold tab at h
  split at h
  · cases h; exact ty2
  · cases h; exact ty3
  · cases h; exact ty4
  · cases h; exact ty5
  · cases h; exact ty12
  · cases h; exact ty21
  · cases h; exact ty22
  · cases h; exact ty24
  · cases h; exact ty25
  · cases h; exact ty34
  · cases h; exact ty38
  · cases h; exact ty44
  · cases h; exact ty51
  · cases h; exact ty52
  · cases h; exact ty55
  · cases h; exact ty61
  · cases h; exact ty62
  · cases h; exact ty66
  · cases h; exact ty67
  · cases h; exact ty85
  · cases h; exact ty92
  · cases h; exact ty93
  · cases h; exact ty101
  · cases h; exact ty102
  · cases h; exact ty104
  · cases h; exact ty106
  · cases h; exact ty121
  · cases h; exact ty122
  · cases h; exact ty123
  · cases h; exact ty133
  · cases h; exact ty139
  · cases h; exact ty144
  · cases h; exact ty158
  · cases h; exact ty167
  · cases h; exact ty174
  · cases h
end Go.Proofs.Ytdbnokeegocpbaa.Am
