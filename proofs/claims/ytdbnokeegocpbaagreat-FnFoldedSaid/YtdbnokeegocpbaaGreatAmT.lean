/- The types of the seat YtdbnokeegocpbaaGreat for the abstract heap. No condition. -/
import Derived.Test.YtdbnokeegocpbaaGreatAm12
import Derived.Test.YtdbnokeegocpbaaGreatProg
import Derived.KernelRfl
namespace Go.Proofs.YtdbnokeegocpbaaGreat.Am
open Go Go.RowKit
theorem tyOk {P : Program} {t : TypeId} {k : TyK} {n b : Nat} {zero : List AV} {eq : Bool} {z : Value} {d : TypeDesc} (h : (P.info? t).map (fun i => (i.zero, i.size, i.bytes)) = some (some z, n, b)) (h1 : z.cells.size = n) (h2 : VRs [] zero z.cells.toList) (h3 : ∀ a ∈ zero, a.one = true) (hd : P.underlying t = some d) (hk : kindOk d k) (he : eq = true → P.stoodInHeld t = false ∧ P.eqGuardType P.depth t = false ∧ namesOk P t = true) : TyOk P t ⟨k, n, b, zero, eq⟩ := by
  cases hi : P.info? t with
  | none => rw [hi] at h; cases h
  | some i =>
    rw [hi] at h
    simp at h
    obtain ⟨e1, e2, e3⟩ := h
    exact ⟨⟨i, z, hi, e2, e3, e1, by omega, h2⟩, h3, ⟨d, hd, hk⟩, he⟩
theorem VRs_rep {m : List Place} (n : Nat) (a : AV) (v : Value) (h : VR m a v) : VRs m (List.replicate n a) (Value.agg (List.replicate n v).toArray).cells.toList := by
  show VRs m _ (List.replicate n v).toArray.toList
  induction n with
  | zero => rfl
  | succ n ih => exact ⟨v, List.replicate n v, by simp [List.replicate_succ], h, by simpa using ih⟩
theorem one_rep (n : Nat) (a : AV) (h : a.one = true) : ∀ b ∈ List.replicate n a, b.one = true := by
  intro b hb
  rw [List.eq_of_mem_replicate hb]
  exact h
theorem mixed : Tryz.prog.follows .mixedOrders = true := by kernel_rfl
def tab : Tab
  | 2 => some ⟨.int .i64, 1, 8, [.int .i64 0], false⟩
  | 3 => some ⟨.int .i64, 1, 8, [.int .i64 0], false⟩
  | 4 => some ⟨.bool, 1, 1, [.bool false], false⟩
  | 5 => some ⟨.int .u8, 1, 1, [.int .u8 0], false⟩
  | 12 => some ⟨.int .u64, 1, 8, [.int .u64 0], false⟩
  | 21 => some ⟨.int .i32, 1, 4, [.int .i32 0], false⟩
  | 22 => some ⟨.slice 5, 1, 24, [.nil], false⟩
  | 23 => some ⟨.slice 51, 1, 24, [.nil], false⟩
  | 24 => some ⟨.slice 35, 1, 24, [.nil], false⟩
  | 29 => some ⟨.slice 3, 1, 24, [.nil], false⟩
  | 34 => some ⟨.struct [(0, 4), (1, 4), (2, 3)], 3, 16, [.bool false, .bool false, .int .i64 0], true⟩
  | 35 => some ⟨.struct [(0, 4), (1, 4), (2, 3)], 3, 16, [.bool false, .bool false, .int .i64 0], true⟩
  | 38 => some ⟨.slice 53, 1, 24, [.nil], false⟩
  | 47 => some ⟨.slice 24, 1, 24, [.nil], false⟩
  | 50 => some ⟨.struct [(0, 38), (1, 3), (2, 3), (3, 3)], 4, 48, [.nil, .int .i64 0, .int .i64 0, .int .i64 0], false⟩
  | 51 => some ⟨.struct [(0, 38), (1, 3), (2, 3), (3, 3)], 4, 48, [.nil, .int .i64 0, .int .i64 0, .int .i64 0], false⟩
  | 52 => some ⟨.struct [(0, 3), (1, 3), (2, 3), (3, 3), (4, 3)], 5, 40, [.int .i64 0, .int .i64 0, .int .i64 0, .int .i64 0, .int .i64 0], true⟩
  | 53 => some ⟨.struct [(0, 3), (1, 3), (2, 3), (3, 3), (4, 3)], 5, 40, [.int .i64 0, .int .i64 0, .int .i64 0, .int .i64 0, .int .i64 0], true⟩
  | 64 => some ⟨.int .u64, 1, 8, [.int .u64 0], false⟩
  | 65 => some ⟨.struct [(0, 22), (1, 3), (2, 64)], 3, 40, [.nil, .int .i64 0, .int .u64 0], false⟩
  | 66 => some ⟨.struct [(0, 22), (1, 3), (2, 64)], 3, 40, [.nil, .int .i64 0, .int .u64 0], false⟩
  | 72 => some ⟨.arr 8 4, 8, 8, List.replicate 8 (.bool false), true⟩
  | 88 => some ⟨.int .u64, 1, 8, [.int .u64 0], false⟩
  | 103 => some ⟨.int .i64, 1, 8, [.int .i64 0], false⟩
  | 112 => some ⟨.int .u32, 1, 4, [.int .u32 0], false⟩
  | 120 => some ⟨.int .u64, 1, 8, [.int .u64 0], false⟩
  | _ => none
theorem ty2 : TyOk Tryz.prog 2 ⟨.int .i64, 1, 8, [.int .i64 0], false⟩ := tyOk (z := .int .i64 0) (by kernel_rfl) rfl ⟨_, _, rfl, rfl, rfl⟩ (by simp [AV.one]) Tryz.underlying2 rfl (fun h => by cases h)
theorem ty3 : TyOk Tryz.prog 3 ⟨.int .i64, 1, 8, [.int .i64 0], false⟩ := tyOk (z := .int .i64 0) (by kernel_rfl) rfl ⟨_, _, rfl, rfl, rfl⟩ (by simp [AV.one]) Tryz.underlying3 rfl (fun h => by cases h)
theorem ty4 : TyOk Tryz.prog 4 ⟨.bool, 1, 1, [.bool false], false⟩ := tyOk (z := .bool false) (by kernel_rfl) rfl ⟨_, _, rfl, rfl, rfl⟩ (by simp [AV.one]) Tryz.underlying4 rfl (fun h => by cases h)
theorem ty5 : TyOk Tryz.prog 5 ⟨.int .u8, 1, 1, [.int .u8 0], false⟩ := tyOk (z := .int .u8 0) (by kernel_rfl) rfl ⟨_, _, rfl, rfl, rfl⟩ (by simp [AV.one]) Tryz.underlying5 rfl (fun h => by cases h)
theorem ty12 : TyOk Tryz.prog 12 ⟨.int .u64, 1, 8, [.int .u64 0], false⟩ := tyOk (z := .int .u64 0) (by kernel_rfl) rfl ⟨_, _, rfl, rfl, rfl⟩ (by simp [AV.one]) Tryz.underlying12 rfl (fun h => by cases h)
theorem ty21 : TyOk Tryz.prog 21 ⟨.int .i32, 1, 4, [.int .i32 0], false⟩ := tyOk (z := .int .i32 0) (by kernel_rfl) rfl ⟨_, _, rfl, rfl, rfl⟩ (by simp [AV.one]) Tryz.underlying21 rfl (fun h => by cases h)
theorem ty22 : TyOk Tryz.prog 22 ⟨.slice 5, 1, 24, [.nil], false⟩ := tyOk (z := .slice none 0 0) (by kernel_rfl) rfl ⟨_, _, rfl, ⟨none, rfl⟩, rfl⟩ (by simp [AV.one]) Tryz.underlying22 rfl (fun h => by cases h)
theorem ty23 : TyOk Tryz.prog 23 ⟨.slice 51, 1, 24, [.nil], false⟩ := tyOk (z := .slice none 0 0) (by kernel_rfl) rfl ⟨_, _, rfl, ⟨none, rfl⟩, rfl⟩ (by simp [AV.one]) Tryz.underlying23 rfl (fun h => by cases h)
theorem ty24 : TyOk Tryz.prog 24 ⟨.slice 35, 1, 24, [.nil], false⟩ := tyOk (z := .slice none 0 0) (by kernel_rfl) rfl ⟨_, _, rfl, ⟨none, rfl⟩, rfl⟩ (by simp [AV.one]) Tryz.underlying24 rfl (fun h => by cases h)
theorem ty29 : TyOk Tryz.prog 29 ⟨.slice 3, 1, 24, [.nil], false⟩ := tyOk (z := .slice none 0 0) (by kernel_rfl) rfl ⟨_, _, rfl, ⟨none, rfl⟩, rfl⟩ (by simp [AV.one]) Tryz.underlying29 rfl (fun h => by cases h)
theorem ty34 : TyOk Tryz.prog 34 ⟨.struct [(0, 4), (1, 4), (2, 3)], 3, 16, [.bool false, .bool false, .int .i64 0], true⟩ := tyOk (z := .agg #[.bool false, .bool false, .int .i64 0]) (by kernel_rfl) rfl ⟨_, _, rfl, rfl, ⟨_, _, rfl, rfl, ⟨_, _, rfl, rfl, rfl⟩⟩⟩ (by simp [AV.one]) Tryz.underlying34 ⟨_, rfl, rfl⟩ (fun _ => ⟨by kernel_rfl, by kernel_rfl, by kernel_rfl⟩)
theorem ty35 : TyOk Tryz.prog 35 ⟨.struct [(0, 4), (1, 4), (2, 3)], 3, 16, [.bool false, .bool false, .int .i64 0], true⟩ := tyOk (z := .agg #[.bool false, .bool false, .int .i64 0]) (by kernel_rfl) rfl ⟨_, _, rfl, rfl, ⟨_, _, rfl, rfl, ⟨_, _, rfl, rfl, rfl⟩⟩⟩ (by simp [AV.one]) Tryz.underlying35 ⟨_, rfl, rfl⟩ (fun _ => ⟨by kernel_rfl, by kernel_rfl, by kernel_rfl⟩)
theorem ty38 : TyOk Tryz.prog 38 ⟨.slice 53, 1, 24, [.nil], false⟩ := tyOk (z := .slice none 0 0) (by kernel_rfl) rfl ⟨_, _, rfl, ⟨none, rfl⟩, rfl⟩ (by simp [AV.one]) Tryz.underlying38 rfl (fun h => by cases h)
theorem ty47 : TyOk Tryz.prog 47 ⟨.slice 24, 1, 24, [.nil], false⟩ := tyOk (z := .slice none 0 0) (by kernel_rfl) rfl ⟨_, _, rfl, ⟨none, rfl⟩, rfl⟩ (by simp [AV.one]) Tryz.underlying47 rfl (fun h => by cases h)
theorem ty50 : TyOk Tryz.prog 50 ⟨.struct [(0, 38), (1, 3), (2, 3), (3, 3)], 4, 48, [.nil, .int .i64 0, .int .i64 0, .int .i64 0], false⟩ := tyOk (z := .agg #[.slice none 0 0, .int .i64 0, .int .i64 0, .int .i64 0]) (by kernel_rfl) rfl ⟨_, _, rfl, ⟨none, rfl⟩, ⟨_, _, rfl, rfl, ⟨_, _, rfl, rfl, ⟨_, _, rfl, rfl, rfl⟩⟩⟩⟩ (by simp [AV.one]) Tryz.underlying50 ⟨_, rfl, rfl⟩ (fun h => by cases h)
theorem ty51 : TyOk Tryz.prog 51 ⟨.struct [(0, 38), (1, 3), (2, 3), (3, 3)], 4, 48, [.nil, .int .i64 0, .int .i64 0, .int .i64 0], false⟩ := tyOk (z := .agg #[.slice none 0 0, .int .i64 0, .int .i64 0, .int .i64 0]) (by kernel_rfl) rfl ⟨_, _, rfl, ⟨none, rfl⟩, ⟨_, _, rfl, rfl, ⟨_, _, rfl, rfl, ⟨_, _, rfl, rfl, rfl⟩⟩⟩⟩ (by simp [AV.one]) Tryz.underlying51 ⟨_, rfl, rfl⟩ (fun h => by cases h)
theorem ty52 : TyOk Tryz.prog 52 ⟨.struct [(0, 3), (1, 3), (2, 3), (3, 3), (4, 3)], 5, 40, [.int .i64 0, .int .i64 0, .int .i64 0, .int .i64 0, .int .i64 0], true⟩ := tyOk (z := .agg #[.int .i64 0, .int .i64 0, .int .i64 0, .int .i64 0, .int .i64 0]) (by kernel_rfl) rfl ⟨_, _, rfl, rfl, ⟨_, _, rfl, rfl, ⟨_, _, rfl, rfl, ⟨_, _, rfl, rfl, ⟨_, _, rfl, rfl, rfl⟩⟩⟩⟩⟩ (by simp [AV.one]) Tryz.underlying52 ⟨_, rfl, rfl⟩ (fun _ => ⟨by kernel_rfl, by kernel_rfl, by kernel_rfl⟩)
theorem ty53 : TyOk Tryz.prog 53 ⟨.struct [(0, 3), (1, 3), (2, 3), (3, 3), (4, 3)], 5, 40, [.int .i64 0, .int .i64 0, .int .i64 0, .int .i64 0, .int .i64 0], true⟩ := tyOk (z := .agg #[.int .i64 0, .int .i64 0, .int .i64 0, .int .i64 0, .int .i64 0]) (by kernel_rfl) rfl ⟨_, _, rfl, rfl, ⟨_, _, rfl, rfl, ⟨_, _, rfl, rfl, ⟨_, _, rfl, rfl, ⟨_, _, rfl, rfl, rfl⟩⟩⟩⟩⟩ (by simp [AV.one]) Tryz.underlying53 ⟨_, rfl, rfl⟩ (fun _ => ⟨by kernel_rfl, by kernel_rfl, by kernel_rfl⟩)
theorem ty64 : TyOk Tryz.prog 64 ⟨.int .u64, 1, 8, [.int .u64 0], false⟩ := tyOk (z := .int .u64 0) (by kernel_rfl) rfl ⟨_, _, rfl, rfl, rfl⟩ (by simp [AV.one]) Tryz.underlying64 rfl (fun h => by cases h)
theorem ty65 : TyOk Tryz.prog 65 ⟨.struct [(0, 22), (1, 3), (2, 64)], 3, 40, [.nil, .int .i64 0, .int .u64 0], false⟩ := tyOk (z := .agg #[.slice none 0 0, .int .i64 0, .int .u64 0]) (by kernel_rfl) rfl ⟨_, _, rfl, ⟨none, rfl⟩, ⟨_, _, rfl, rfl, ⟨_, _, rfl, rfl, rfl⟩⟩⟩ (by simp [AV.one]) Tryz.underlying65 ⟨_, rfl, rfl⟩ (fun h => by cases h)
theorem ty66 : TyOk Tryz.prog 66 ⟨.struct [(0, 22), (1, 3), (2, 64)], 3, 40, [.nil, .int .i64 0, .int .u64 0], false⟩ := tyOk (z := .agg #[.slice none 0 0, .int .i64 0, .int .u64 0]) (by kernel_rfl) rfl ⟨_, _, rfl, ⟨none, rfl⟩, ⟨_, _, rfl, rfl, ⟨_, _, rfl, rfl, rfl⟩⟩⟩ (by simp [AV.one]) Tryz.underlying66 ⟨_, rfl, rfl⟩ (fun h => by cases h)
theorem ty72 : TyOk Tryz.prog 72 ⟨.arr 8 4, 8, 8, List.replicate 8 (.bool false), true⟩ := tyOk (z := .agg (List.replicate 8 (.bool false)).toArray) (by kernel_rfl) rfl (VRs_rep _ _ _ (by simp [VR])) (one_rep _ _ rfl) Tryz.underlying72 rfl (fun _ => ⟨by kernel_rfl, by kernel_rfl, by kernel_rfl⟩)
theorem ty88 : TyOk Tryz.prog 88 ⟨.int .u64, 1, 8, [.int .u64 0], false⟩ := tyOk (z := .int .u64 0) (by kernel_rfl) rfl ⟨_, _, rfl, rfl, rfl⟩ (by simp [AV.one]) Tryz.underlying88 rfl (fun h => by cases h)
theorem ty103 : TyOk Tryz.prog 103 ⟨.int .i64, 1, 8, [.int .i64 0], false⟩ := tyOk (z := .int .i64 0) (by kernel_rfl) rfl ⟨_, _, rfl, rfl, rfl⟩ (by simp [AV.one]) Tryz.underlying103 rfl (fun h => by cases h)
theorem ty112 : TyOk Tryz.prog 112 ⟨.int .u32, 1, 4, [.int .u32 0], false⟩ := tyOk (z := .int .u32 0) (by kernel_rfl) rfl ⟨_, _, rfl, rfl, rfl⟩ (by simp [AV.one]) Tryz.underlying112 rfl (fun h => by cases h)
theorem ty120 : TyOk Tryz.prog 120 ⟨.int .u64, 1, 8, [.int .u64 0], false⟩ := tyOk (z := .int .u64 0) (by kernel_rfl) rfl ⟨_, _, rfl, rfl, rfl⟩ (by simp [AV.one]) Tryz.underlying120 rfl (fun h => by cases h)
theorem tabOk : TabOk Tryz.prog tab := by
  intro t ty h
  unfold tab at h
  split at h
  · cases h; exact ty2
  · cases h; exact ty3
  · cases h; exact ty4
  · cases h; exact ty5
  · cases h; exact ty12
  · cases h; exact ty21
  · cases h; exact ty22
  · cases h; exact ty23
  · cases h; exact ty24
  · cases h; exact ty29
  · cases h; exact ty34
  · cases h; exact ty35
  · cases h; exact ty38
  · cases h; exact ty47
  · cases h; exact ty50
  · cases h; exact ty51
  · cases h; exact ty52
  · cases h; exact ty53
  · cases h; exact ty64
  · cases h; exact ty65
  · cases h; exact ty66
  · cases h; exact ty72
  · cases h; exact ty88
  · cases h; exact ty103
  · cases h; exact ty112
  · cases h; exact ty120
  · cases h
end Go.Proofs.YtdbnokeegocpbaaGreat.Am
