/- The types of the seat Ytfndikfaibbjoaa for the abstract heap. No condition. -/
import Derived.Test.YtfndikfaibbjoaaAm12
import Derived.Test.YtfndikfaibbjoaaProg
import Derived.KernelRfl
namespace Go.Proofs.Ytfndikfaibbjoaa.Am
open Go Go.RowKit
theorem tyOk {P : Program} {t : TypeId} {k : TyK} {n b : Nat} {zero : List AV} {eq : Bool} {z : Value} {d : TypeDesc} (h : (P.info? t).map (fun i => (i.zero, i.size, i.bytes)) = some (some z, n, b)) (h1 : z.cells.size = n) (h2 : VRs [] zero z.cells.toList) (h3 : ∀ a ∈ zero, a.one = true) (hd : P.underlying t = some d) (hk : kindOk d k) (he : eq = true → P.stoodInHeld t = false ∧ P.eqGuardType P.depth t = false ∧ namesOk P t = true) : TyOk P t ⟨k, n, b, zero, eq⟩ := by
  cases hi : P.info? t with
  | none => rw [hi] at h; cases h
  | some i =>
    rw [hi] at h
    simp at h
    obtain ⟨e1, e2, e3⟩ := h
    exact ⟨⟨i, z, hi, e2, e3, e1, by omega, h2⟩, h3, ⟨d, hd, hk⟩, he⟩
theorem VRs_rep {m : List Place} (n : Nat) (a : AV) (v : Value) (h : VR m a v) : VRs m (List.replicate n a) (Value.agg (List.replicate n v).toArray).cells.toList := by
  show VRs m _ (List.replicate n v).toArray.toList
  induction n with
  | zero => rfl
  | succ n ih => exact ⟨v, List.replicate n v, by simp [List.replicate_succ], h, by simpa using ih⟩
theorem one_rep (n : Nat) (a : AV) (h : a.one = true) : ∀ b ∈ List.replicate n a, b.one = true := by
  intro b hb
  rw [List.eq_of_mem_replicate hb]
  exact h
theorem mixed : Try.prog.follows .mixedOrders = true := by kernel_rfl
def tab : Tab
  | 2 => some ⟨.int .i64, 1, 8, [.int .i64 0], false⟩
  | 3 => some ⟨.int .i64, 1, 8, [.int .i64 0], false⟩
  | 4 => some ⟨.bool, 1, 1, [.bool false], false⟩
  | 5 => some ⟨.int .u8, 1, 1, [.int .u8 0], false⟩
  | 12 => some ⟨.int .u64, 1, 8, [.int .u64 0], false⟩
  | 21 => some ⟨.int .i32, 1, 4, [.int .i32 0], false⟩
  | 22 => some ⟨.struct [(0, 4), (1, 3), (2, 3)], 3, 24, [.bool false, .int .i64 0, .int .i64 0], true⟩
  | 23 => some ⟨.struct [(0, 4), (1, 3), (2, 3)], 3, 24, [.bool false, .int .i64 0, .int .i64 0], true⟩
  | 24 => some ⟨.struct [(0, 4), (1, 3), (2, 3)], 3, 24, [.bool false, .int .i64 0, .int .i64 0], true⟩
  | 30 => some ⟨.slice 82, 1, 24, [.nil], false⟩
  | 31 => some ⟨.slice 23, 1, 24, [.nil], false⟩
  | 34 => some ⟨.slice 39, 1, 24, [.nil], false⟩
  | 37 => some ⟨.slice 78, 1, 24, [.nil], false⟩
  | 39 => some ⟨.slice 24, 1, 24, [.nil], false⟩
  | 48 => some ⟨.slice 96, 1, 24, [.nil], false⟩
  | 52 => some ⟨.slice 94, 1, 24, [.nil], false⟩
  | 57 => some ⟨.slice 5, 1, 24, [.nil], false⟩
  | 66 => some ⟨.slice 3, 1, 24, [.nil], false⟩
  | 77 => some ⟨.struct [(0, 52), (1, 3), (2, 3), (3, 3)], 4, 48, [.nil, .int .i64 0, .int .i64 0, .int .i64 0], false⟩
  | 78 => some ⟨.struct [(0, 52), (1, 3), (2, 3), (3, 3)], 4, 48, [.nil, .int .i64 0, .int .i64 0, .int .i64 0], false⟩
  | 81 => some ⟨.struct [(0, 48), (1, 3), (2, 3), (3, 3)], 4, 48, [.nil, .int .i64 0, .int .i64 0, .int .i64 0], false⟩
  | 82 => some ⟨.struct [(0, 48), (1, 3), (2, 3), (3, 3)], 4, 48, [.nil, .int .i64 0, .int .i64 0, .int .i64 0], false⟩
  | 93 => some ⟨.struct [(0, 3), (1, 3), (2, 3), (3, 3), (4, 3)], 5, 40, [.int .i64 0, .int .i64 0, .int .i64 0, .int .i64 0, .int .i64 0], true⟩
  | 94 => some ⟨.struct [(0, 3), (1, 3), (2, 3), (3, 3), (4, 3)], 5, 40, [.int .i64 0, .int .i64 0, .int .i64 0, .int .i64 0, .int .i64 0], true⟩
  | 96 => some ⟨.struct [(0, 3), (1, 3), (2, 3), (3, 3), (4, 3)], 5, 40, [.int .i64 0, .int .i64 0, .int .i64 0, .int .i64 0, .int .i64 0], true⟩
  | 99 => some ⟨.int .u64, 1, 8, [.int .u64 0], false⟩
  | 100 => some ⟨.struct [(0, 57), (1, 3), (2, 99)], 3, 40, [.nil, .int .i64 0, .int .u64 0], false⟩
  | 101 => some ⟨.struct [(0, 57), (1, 3), (2, 99)], 3, 40, [.nil, .int .i64 0, .int .u64 0], false⟩
  | 128 => some ⟨.int .u64, 1, 8, [.int .u64 0], false⟩
  | 135 => some ⟨.int .u32, 1, 4, [.int .u32 0], false⟩
  | _ => none
theorem ty2 : TyOk Try.prog 2 ⟨.int .i64, 1, 8, [.int .i64 0], false⟩ := tyOk (z := .int .i64 0) (by kernel_rfl) rfl ⟨_, _, rfl, rfl, rfl⟩ (by simp [AV.one]) Try.underlying2 rfl (fun h => by cases h)
theorem ty3 : TyOk Try.prog 3 ⟨.int .i64, 1, 8, [.int .i64 0], false⟩ := tyOk (z := .int .i64 0) (by kernel_rfl) rfl ⟨_, _, rfl, rfl, rfl⟩ (by simp [AV.one]) Try.underlying3 rfl (fun h => by cases h)
theorem ty4 : TyOk Try.prog 4 ⟨.bool, 1, 1, [.bool false], false⟩ := tyOk (z := .bool false) (by kernel_rfl) rfl ⟨_, _, rfl, rfl, rfl⟩ (by simp [AV.one]) Try.underlying4 rfl (fun h => by cases h)
theorem ty5 : TyOk Try.prog 5 ⟨.int .u8, 1, 1, [.int .u8 0], false⟩ := tyOk (z := .int .u8 0) (by kernel_rfl) rfl ⟨_, _, rfl, rfl, rfl⟩ (by simp [AV.one]) Try.underlying5 rfl (fun h => by cases h)
theorem ty12 : TyOk Try.prog 12 ⟨.int .u64, 1, 8, [.int .u64 0], false⟩ := tyOk (z := .int .u64 0) (by kernel_rfl) rfl ⟨_, _, rfl, rfl, rfl⟩ (by simp [AV.one]) Try.underlying12 rfl (fun h => by cases h)
theorem ty21 : TyOk Try.prog 21 ⟨.int .i32, 1, 4, [.int .i32 0], false⟩ := tyOk (z := .int .i32 0) (by kernel_rfl) rfl ⟨_, _, rfl, rfl, rfl⟩ (by simp [AV.one]) Try.underlying21 rfl (fun h => by cases h)
theorem ty22 : TyOk Try.prog 22 ⟨.struct [(0, 4), (1, 3), (2, 3)], 3, 24, [.bool false, .int .i64 0, .int .i64 0], true⟩ := tyOk (z := .agg #[.bool false, .int .i64 0, .int .i64 0]) (by kernel_rfl) rfl ⟨_, _, rfl, rfl, ⟨_, _, rfl, rfl, ⟨_, _, rfl, rfl, rfl⟩⟩⟩ (by simp [AV.one]) Try.underlying22 ⟨_, rfl, rfl⟩ (fun _ => ⟨by kernel_rfl, by kernel_rfl, by kernel_rfl⟩)
theorem ty23 : TyOk Try.prog 23 ⟨.struct [(0, 4), (1, 3), (2, 3)], 3, 24, [.bool false, .int .i64 0, .int .i64 0], true⟩ := tyOk (z := .agg #[.bool false, .int .i64 0, .int .i64 0]) (by kernel_rfl) rfl ⟨_, _, rfl, rfl, ⟨_, _, rfl, rfl, ⟨_, _, rfl, rfl, rfl⟩⟩⟩ (by simp [AV.one]) Try.underlying23 ⟨_, rfl, rfl⟩ (fun _ => ⟨by kernel_rfl, by kernel_rfl, by kernel_rfl⟩)
theorem ty24 : TyOk Try.prog 24 ⟨.struct [(0, 4), (1, 3), (2, 3)], 3, 24, [.bool false, .int .i64 0, .int .i64 0], true⟩ := tyOk (z := .agg #[.bool false, .int .i64 0, .int .i64 0]) (by kernel_rfl) rfl ⟨_, _, rfl, rfl, ⟨_, _, rfl, rfl, ⟨_, _, rfl, rfl, rfl⟩⟩⟩ (by simp [AV.one]) Try.underlying24 ⟨_, rfl, rfl⟩ (fun _ => ⟨by kernel_rfl, by kernel_rfl, by kernel_rfl⟩)
theorem ty30 : TyOk Try.prog 30 ⟨.slice 82, 1, 24, [.nil], false⟩ := tyOk (z := .slice none 0 0) (by kernel_rfl) rfl ⟨_, _, rfl, ⟨none, rfl⟩, rfl⟩ (by simp [AV.one]) Try.underlying30 rfl (fun h => by cases h)
theorem ty31 : TyOk Try.prog 31 ⟨.slice 23, 1, 24, [.nil], false⟩ := tyOk (z := .slice none 0 0) (by kernel_rfl) rfl ⟨_, _, rfl, ⟨none, rfl⟩, rfl⟩ (by simp [AV.one]) Try.underlying31 rfl (fun h => by cases h)
theorem ty34 : TyOk Try.prog 34 ⟨.slice 39, 1, 24, [.nil], false⟩ := tyOk (z := .slice none 0 0) (by kernel_rfl) rfl ⟨_, _, rfl, ⟨none, rfl⟩, rfl⟩ (by simp [AV.one]) Try.underlying34 rfl (fun h => by cases h)
theorem ty37 : TyOk Try.prog 37 ⟨.slice 78, 1, 24, [.nil], false⟩ := tyOk (z := .slice none 0 0) (by kernel_rfl) rfl ⟨_, _, rfl, ⟨none, rfl⟩, rfl⟩ (by simp [AV.one]) Try.underlying37 rfl (fun h => by cases h)
theorem ty39 : TyOk Try.prog 39 ⟨.slice 24, 1, 24, [.nil], false⟩ := tyOk (z := .slice none 0 0) (by kernel_rfl) rfl ⟨_, _, rfl, ⟨none, rfl⟩, rfl⟩ (by simp [AV.one]) Try.underlying39 rfl (fun h => by cases h)
theorem ty48 : TyOk Try.prog 48 ⟨.slice 96, 1, 24, [.nil], false⟩ := tyOk (z := .slice none 0 0) (by kernel_rfl) rfl ⟨_, _, rfl, ⟨none, rfl⟩, rfl⟩ (by simp [AV.one]) Try.underlying48 rfl (fun h => by cases h)
theorem ty52 : TyOk Try.prog 52 ⟨.slice 94, 1, 24, [.nil], false⟩ := tyOk (z := .slice none 0 0) (by kernel_rfl) rfl ⟨_, _, rfl, ⟨none, rfl⟩, rfl⟩ (by simp [AV.one]) Try.underlying52 rfl (fun h => by cases h)
theorem ty57 : TyOk Try.prog 57 ⟨.slice 5, 1, 24, [.nil], false⟩ := tyOk (z := .slice none 0 0) (by kernel_rfl) rfl ⟨_, _, rfl, ⟨none, rfl⟩, rfl⟩ (by simp [AV.one]) Try.underlying57 rfl (fun h => by cases h)
theorem ty66 : TyOk Try.prog 66 ⟨.slice 3, 1, 24, [.nil], false⟩ := tyOk (z := .slice none 0 0) (by kernel_rfl) rfl ⟨_, _, rfl, ⟨none, rfl⟩, rfl⟩ (by simp [AV.one]) Try.underlying66 rfl (fun h => by cases h)
theorem ty77 : TyOk Try.prog 77 ⟨.struct [(0, 52), (1, 3), (2, 3), (3, 3)], 4, 48, [.nil, .int .i64 0, .int .i64 0, .int .i64 0], false⟩ := tyOk (z := .agg #[.slice none 0 0, .int .i64 0, .int .i64 0, .int .i64 0]) (by kernel_rfl) rfl ⟨_, _, rfl, ⟨none, rfl⟩, ⟨_, _, rfl, rfl, ⟨_, _, rfl, rfl, ⟨_, _, rfl, rfl, rfl⟩⟩⟩⟩ (by simp [AV.one]) Try.underlying77 ⟨_, rfl, rfl⟩ (fun h => by cases h)
theorem ty78 : TyOk Try.prog 78 ⟨.struct [(0, 52), (1, 3), (2, 3), (3, 3)], 4, 48, [.nil, .int .i64 0, .int .i64 0, .int .i64 0], false⟩ := tyOk (z := .agg #[.slice none 0 0, .int .i64 0, .int .i64 0, .int .i64 0]) (by kernel_rfl) rfl ⟨_, _, rfl, ⟨none, rfl⟩, ⟨_, _, rfl, rfl, ⟨_, _, rfl, rfl, ⟨_, _, rfl, rfl, rfl⟩⟩⟩⟩ (by simp [AV.one]) Try.underlying78 ⟨_, rfl, rfl⟩ (fun h => by cases h)
theorem ty81 : TyOk Try.prog 81 ⟨.struct [(0, 48), (1, 3), (2, 3), (3, 3)], 4, 48, [.nil, .int .i64 0, .int .i64 0, .int .i64 0], false⟩ := tyOk (z := .agg #[.slice none 0 0, .int .i64 0, .int .i64 0, .int .i64 0]) (by kernel_rfl) rfl ⟨_, _, rfl, ⟨none, rfl⟩, ⟨_, _, rfl, rfl, ⟨_, _, rfl, rfl, ⟨_, _, rfl, rfl, rfl⟩⟩⟩⟩ (by simp [AV.one]) Try.underlying81 ⟨_, rfl, rfl⟩ (fun h => by cases h)
theorem ty82 : TyOk Try.prog 82 ⟨.struct [(0, 48), (1, 3), (2, 3), (3, 3)], 4, 48, [.nil, .int .i64 0, .int .i64 0, .int .i64 0], false⟩ := tyOk (z := .agg #[.slice none 0 0, .int .i64 0, .int .i64 0, .int .i64 0]) (by kernel_rfl) rfl ⟨_, _, rfl, ⟨none, rfl⟩, ⟨_, _, rfl, rfl, ⟨_, _, rfl, rfl, ⟨_, _, rfl, rfl, rfl⟩⟩⟩⟩ (by simp [AV.one]) Try.underlying82 ⟨_, rfl, rfl⟩ (fun h => by cases h)
theorem ty93 : TyOk Try.prog 93 ⟨.struct [(0, 3), (1, 3), (2, 3), (3, 3), (4, 3)], 5, 40, [.int .i64 0, .int .i64 0, .int .i64 0, .int .i64 0, .int .i64 0], true⟩ := tyOk (z := .agg #[.int .i64 0, .int .i64 0, .int .i64 0, .int .i64 0, .int .i64 0]) (by kernel_rfl) rfl ⟨_, _, rfl, rfl, ⟨_, _, rfl, rfl, ⟨_, _, rfl, rfl, ⟨_, _, rfl, rfl, ⟨_, _, rfl, rfl, rfl⟩⟩⟩⟩⟩ (by simp [AV.one]) Try.underlying93 ⟨_, rfl, rfl⟩ (fun _ => ⟨by kernel_rfl, by kernel_rfl, by kernel_rfl⟩)
theorem ty94 : TyOk Try.prog 94 ⟨.struct [(0, 3), (1, 3), (2, 3), (3, 3), (4, 3)], 5, 40, [.int .i64 0, .int .i64 0, .int .i64 0, .int .i64 0, .int .i64 0], true⟩ := tyOk (z := .agg #[.int .i64 0, .int .i64 0, .int .i64 0, .int .i64 0, .int .i64 0]) (by kernel_rfl) rfl ⟨_, _, rfl, rfl, ⟨_, _, rfl, rfl, ⟨_, _, rfl, rfl, ⟨_, _, rfl, rfl, ⟨_, _, rfl, rfl, rfl⟩⟩⟩⟩⟩ (by simp [AV.one]) Try.underlying94 ⟨_, rfl, rfl⟩ (fun _ => ⟨by kernel_rfl, by kernel_rfl, by kernel_rfl⟩)
theorem ty96 : TyOk Try.prog 96 ⟨.struct [(0, 3), (1, 3), (2, 3), (3, 3), (4, 3)], 5, 40, [.int .i64 0, .int .i64 0, .int .i64 0, .int .i64 0, .int .i64 0], true⟩ := tyOk (z := .agg #[.int .i64 0, .int .i64 0, .int .i64 0, .int .i64 0, .int .i64 0]) (by kernel_rfl) rfl ⟨_, _, rfl, rfl, ⟨_, _, rfl, rfl, ⟨_, _, rfl, rfl, ⟨_, _, rfl, rfl, ⟨_, _, rfl, rfl, rfl⟩⟩⟩⟩⟩ (by simp [AV.one]) Try.underlying96 ⟨_, rfl, rfl⟩ (fun _ => ⟨by kernel_rfl, by kernel_rfl, by kernel_rfl⟩)
theorem ty99 : TyOk Try.prog 99 ⟨.int .u64, 1, 8, [.int .u64 0], false⟩ := tyOk (z := .int .u64 0) (by kernel_rfl) rfl ⟨_, _, rfl, rfl, rfl⟩ (by simp [AV.one]) Try.underlying99 rfl (fun h => by cases h)
theorem ty100 : TyOk Try.prog 100 ⟨.struct [(0, 57), (1, 3), (2, 99)], 3, 40, [.nil, .int .i64 0, .int .u64 0], false⟩ := tyOk (z := .agg #[.slice none 0 0, .int .i64 0, .int .u64 0]) (by kernel_rfl) rfl ⟨_, _, rfl, ⟨none, rfl⟩, ⟨_, _, rfl, rfl, ⟨_, _, rfl, rfl, rfl⟩⟩⟩ (by simp [AV.one]) Try.underlying100 ⟨_, rfl, rfl⟩ (fun h => by cases h)
theorem ty101 : TyOk Try.prog 101 ⟨.struct [(0, 57), (1, 3), (2, 99)], 3, 40, [.nil, .int .i64 0, .int .u64 0], false⟩ := tyOk (z := .agg #[.slice none 0 0, .int .i64 0, .int .u64 0]) (by kernel_rfl) rfl ⟨_, _, rfl, ⟨none, rfl⟩, ⟨_, _, rfl, rfl, ⟨_, _, rfl, rfl, rfl⟩⟩⟩ (by simp [AV.one]) Try.underlying101 ⟨_, rfl, rfl⟩ (fun h => by cases h)
theorem ty128 : TyOk Try.prog 128 ⟨.int .u64, 1, 8, [.int .u64 0], false⟩ := tyOk (z := .int .u64 0) (by kernel_rfl) rfl ⟨_, _, rfl, rfl, rfl⟩ (by simp [AV.one]) Try.underlying128 rfl (fun h => by cases h)
theorem ty135 : TyOk Try.prog 135 ⟨.int .u32, 1, 4, [.int .u32 0], false⟩ := tyOk (z := .int .u32 0) (by kernel_rfl) rfl ⟨_, _, rfl, rfl, rfl⟩ (by simp [AV.one]) Try.underlying135 rfl (fun h => by cases h)
theorem tabOk : TabOk Try.prog tab := by
  intro t ty h
  unfold tab at h
  split at h
  · cases h; exact ty2
  · cases h; exact ty3
  · cases h; exact ty4
  · cases h; exact ty5
  · cases h; exact ty12
  · cases h; exact ty21
  · cases h; exact ty22
  · cases h; exact ty23
  · cases h; exact ty24
  · cases h; exact ty30
  · cases h; exact ty31
  · cases h; exact ty34
  · cases h; exact ty37
  · cases h; exact ty39
  · cases h; exact ty48
  · cases h; exact ty52
  · cases h; exact ty57
  · cases h; exact ty66
  · cases h; exact ty77
  · cases h; exact ty78
  · cases h; exact ty81
  · cases h; exact ty82
  · cases h; exact ty93
  · cases h; exact ty94
  · cases h; exact ty96
  · cases h; exact ty99
  · cases h; exact ty100
  · cases h; exact ty101
  · cases h; exact ty128
  · cases h; exact ty135
  · cases h
end Go.Proofs.Ytfndikfaibbjoaa.Am
