/- The types of the seat Ytcadaadoodpnmaa for the abstract heap. No condition. -/
import Derived.Test.YtcadaadoodpnmaaAm12
import Derived.Test.YtcadaadoodpnmaaProg
import Derived.KernelRfl
namespace Go.Proofs.Ytcadaadoodpnmaa.Am
open Go Go.RowKit
theorem tyOk {P : Program} {t : TypeId} {k : TyK} {n b : Nat} {zero : List AV} {eq : Bool} {z : Value} {d : TypeDesc} (h : (P.info? t).map (fun i => (i.zero, i.size, i.bytes)) = some (some z, n, b)) (h1 : z.cells.size = n) (h2 : VRs [] zero z.cells.toList) (h3 : ∀ a ∈ zero, a.one = true) (hd : P.underlying t = some d) (hk : kindOk d k) : TyOk P t ⟨k, n, b, zero, eq⟩ := by
  cases hi : P.info? t with
  | none => rw [hi] at h; cases h
  | some i =>
    rw [hi] at h
    simp at h
    obtain ⟨e1, e2, e3⟩ := h
    exact ⟨⟨i, z, hi, e2, e3, e1, by omega, h2⟩, h3, d, hd, hk⟩
theorem VRs_rep {m : List Place} (n : Nat) (a : AV) (v : Value) (h : VR m a v) : VRs m (List.replicate n a) (Value.agg (List.replicate n v).toArray).cells.toList := by
  show VRs m _ (List.replicate n v).toArray.toList
  induction n with
  | zero => rfl
  | succ n ih => exact ⟨v, List.replicate n v, by simp [List.replicate_succ], h, by simpa using ih⟩
theorem one_rep (n : Nat) (a : AV) (h : a.one = true) : ∀ b ∈ List.replicate n a, b.one = true := by
  intro b hb
  rw [List.eq_of_mem_replicate hb]
  exact h
theorem mixed : Try.prog.follows .mixedOrders = true := by kernel_rfl
def tab : Tab
  | 2 => some ⟨.int .i64, 1, 8, [.int .i64 0], false⟩
  | 3 => some ⟨.int .i64, 1, 8, [.int .i64 0], false⟩
  | 4 => some ⟨.bool, 1, 1, [.bool false], false⟩
  | 5 => some ⟨.int .u8, 1, 1, [.int .u8 0], false⟩
  | 12 => some ⟨.int .u64, 1, 8, [.int .u64 0], false⟩
  | 21 => some ⟨.int .i32, 1, 4, [.int .i32 0], false⟩
  | 22 => some ⟨.slice 55, 1, 24, [.nil], false⟩
  | 25 => some ⟨.slice 49, 1, 24, [.nil], false⟩
  | 31 => some ⟨.slice 3, 1, 24, [.nil], false⟩
  | 45 => some ⟨.slice 5, 1, 24, [.nil], false⟩
  | 48 => some ⟨.struct [(0, 3), (1, 31)], 2, 32, [.int .i64 0, .nil], false⟩
  | 49 => some ⟨.struct [(0, 3), (1, 31)], 2, 32, [.int .i64 0, .nil], false⟩
  | 55 => some ⟨.struct [(0, 3), (1, 31)], 2, 32, [.int .i64 0, .nil], false⟩
  | 72 => some ⟨.int .u64, 1, 8, [.int .u64 0], false⟩
  | 73 => some ⟨.struct [(0, 45), (1, 3), (2, 72)], 3, 40, [.nil, .int .i64 0, .int .u64 0], false⟩
  | 74 => some ⟨.struct [(0, 45), (1, 3), (2, 72)], 3, 40, [.nil, .int .i64 0, .int .u64 0], false⟩
  | 85 => some ⟨.int .u64, 1, 8, [.int .u64 0], false⟩
  | 92 => some ⟨.int .u32, 1, 4, [.int .u32 0], false⟩
  | _ => none
theorem ty2 : TyOk Try.prog 2 ⟨.int .i64, 1, 8, [.int .i64 0], false⟩ := tyOk (z := .int .i64 0) (by kernel_rfl) rfl ⟨_, _, rfl, rfl, rfl⟩ (by simp [AV.one]) Try.underlying2 rfl
theorem ty3 : TyOk Try.prog 3 ⟨.int .i64, 1, 8, [.int .i64 0], false⟩ := tyOk (z := .int .i64 0) (by kernel_rfl) rfl ⟨_, _, rfl, rfl, rfl⟩ (by simp [AV.one]) Try.underlying3 rfl
theorem ty4 : TyOk Try.prog 4 ⟨.bool, 1, 1, [.bool false], false⟩ := tyOk (z := .bool false) (by kernel_rfl) rfl ⟨_, _, rfl, rfl, rfl⟩ (by simp [AV.one]) Try.underlying4 rfl
theorem ty5 : TyOk Try.prog 5 ⟨.int .u8, 1, 1, [.int .u8 0], false⟩ := tyOk (z := .int .u8 0) (by kernel_rfl) rfl ⟨_, _, rfl, rfl, rfl⟩ (by simp [AV.one]) Try.underlying5 rfl
theorem ty12 : TyOk Try.prog 12 ⟨.int .u64, 1, 8, [.int .u64 0], false⟩ := tyOk (z := .int .u64 0) (by kernel_rfl) rfl ⟨_, _, rfl, rfl, rfl⟩ (by simp [AV.one]) Try.underlying12 rfl
theorem ty21 : TyOk Try.prog 21 ⟨.int .i32, 1, 4, [.int .i32 0], false⟩ := tyOk (z := .int .i32 0) (by kernel_rfl) rfl ⟨_, _, rfl, rfl, rfl⟩ (by simp [AV.one]) Try.underlying21 rfl
theorem ty22 : TyOk Try.prog 22 ⟨.slice 55, 1, 24, [.nil], false⟩ := tyOk (z := .slice none 0 0) (by kernel_rfl) rfl ⟨_, _, rfl, ⟨none, rfl⟩, rfl⟩ (by simp [AV.one]) Try.underlying22 rfl
theorem ty25 : TyOk Try.prog 25 ⟨.slice 49, 1, 24, [.nil], false⟩ := tyOk (z := .slice none 0 0) (by kernel_rfl) rfl ⟨_, _, rfl, ⟨none, rfl⟩, rfl⟩ (by simp [AV.one]) Try.underlying25 rfl
theorem ty31 : TyOk Try.prog 31 ⟨.slice 3, 1, 24, [.nil], false⟩ := tyOk (z := .slice none 0 0) (by kernel_rfl) rfl ⟨_, _, rfl, ⟨none, rfl⟩, rfl⟩ (by simp [AV.one]) Try.underlying31 rfl
theorem ty45 : TyOk Try.prog 45 ⟨.slice 5, 1, 24, [.nil], false⟩ := tyOk (z := .slice none 0 0) (by kernel_rfl) rfl ⟨_, _, rfl, ⟨none, rfl⟩, rfl⟩ (by simp [AV.one]) Try.underlying45 rfl
theorem ty48 : TyOk Try.prog 48 ⟨.struct [(0, 3), (1, 31)], 2, 32, [.int .i64 0, .nil], false⟩ := tyOk (z := .agg #[.int .i64 0, .slice none 0 0]) (by kernel_rfl) rfl ⟨_, _, rfl, rfl, ⟨_, _, rfl, ⟨none, rfl⟩, rfl⟩⟩ (by simp [AV.one]) Try.underlying48 ⟨_, rfl, rfl⟩
theorem ty49 : TyOk Try.prog 49 ⟨.struct [(0, 3), (1, 31)], 2, 32, [.int .i64 0, .nil], false⟩ := tyOk (z := .agg #[.int .i64 0, .slice none 0 0]) (by kernel_rfl) rfl ⟨_, _, rfl, rfl, ⟨_, _, rfl, ⟨none, rfl⟩, rfl⟩⟩ (by simp [AV.one]) Try.underlying49 ⟨_, rfl, rfl⟩
theorem ty55 : TyOk Try.prog 55 ⟨.struct [(0, 3), (1, 31)], 2, 32, [.int .i64 0, .nil], false⟩ := tyOk (z := .agg #[.int .i64 0, .slice none 0 0]) (by kernel_rfl) rfl ⟨_, _, rfl, rfl, ⟨_, _, rfl, ⟨none, rfl⟩, rfl⟩⟩ (by simp [AV.one]) Try.underlying55 ⟨_, rfl, rfl⟩
theorem ty72 : TyOk Try.prog 72 ⟨.int .u64, 1, 8, [.int .u64 0], false⟩ := tyOk (z := .int .u64 0) (by kernel_rfl) rfl ⟨_, _, rfl, rfl, rfl⟩ (by simp [AV.one]) Try.underlying72 rfl
theorem ty73 : TyOk Try.prog 73 ⟨.struct [(0, 45), (1, 3), (2, 72)], 3, 40, [.nil, .int .i64 0, .int .u64 0], false⟩ := tyOk (z := .agg #[.slice none 0 0, .int .i64 0, .int .u64 0]) (by kernel_rfl) rfl ⟨_, _, rfl, ⟨none, rfl⟩, ⟨_, _, rfl, rfl, ⟨_, _, rfl, rfl, rfl⟩⟩⟩ (by simp [AV.one]) Try.underlying73 ⟨_, rfl, rfl⟩
theorem ty74 : TyOk Try.prog 74 ⟨.struct [(0, 45), (1, 3), (2, 72)], 3, 40, [.nil, .int .i64 0, .int .u64 0], false⟩ := tyOk (z := .agg #[.slice none 0 0, .int .i64 0, .int .u64 0]) (by kernel_rfl) rfl ⟨_, _, rfl, ⟨none, rfl⟩, ⟨_, _, rfl, rfl, ⟨_, _, rfl, rfl, rfl⟩⟩⟩ (by simp [AV.one]) Try.underlying74 ⟨_, rfl, rfl⟩
theorem ty85 : TyOk Try.prog 85 ⟨.int .u64, 1, 8, [.int .u64 0], false⟩ := tyOk (z := .int .u64 0) (by kernel_rfl) rfl ⟨_, _, rfl, rfl, rfl⟩ (by simp [AV.one]) Try.underlying85 rfl
theorem ty92 : TyOk Try.prog 92 ⟨.int .u32, 1, 4, [.int .u32 0], false⟩ := tyOk (z := .int .u32 0) (by kernel_rfl) rfl ⟨_, _, rfl, rfl, rfl⟩ (by simp [AV.one]) Try.underlying92 rfl
theorem tabOk : TabOk Try.prog tab := by
  intro t ty h
  unfold tab at h
  split at h
  · cases h; exact ty2
  · cases h; exact ty3
  · cases h; exact ty4
  · cases h; exact ty5
  · cases h; exact ty12
  · cases h; exact ty21
  · cases h; exact ty22
  · cases h; exact ty25
  · cases h; exact ty31
  · cases h; exact ty45
  · cases h; exact ty48
  · cases h; exact ty49
  · cases h; exact ty55
  · cases h; exact ty72
  · cases h; exact ty73
  · cases h; exact ty74
  · cases h; exact ty85
  · cases h; exact ty92
  · cases h
end Go.Proofs.Ytcadaadoodpnmaa.Am
