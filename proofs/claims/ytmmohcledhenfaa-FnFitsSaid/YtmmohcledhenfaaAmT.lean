/- The types of the seat Ytmmohcledhenfaa for the abstract heap. No condition. -/
import Derived.Test.YtmmohcledhenfaaAm12
import Derived.Test.YtmmohcledhenfaaProg
import Derived.KernelRfl
namespace Go.Proofs.Ytmmohcledhenfaa.Am
open Go Go.RowKit
theorem tyOk {P : Program} {t : TypeId} {k : TyK} {n b : Nat} {zero : List AV} {eq : Bool} {z : Value} {d : TypeDesc} (h : (P.info? t).map (fun i => (i.zero, i.size, i.bytes)) = some (some z, n, b)) (h1 : z.cells.size = n) (h2 : VRs [] zero z.cells.toList) (h3 : ∀ a ∈ zero, a.one = true) (hd : P.underlying t = some d) (hk : kindOk d k) (he : eq = true → P.stoodInHeld t = false ∧ P.eqGuardType P.depth t = false ∧ namesOk P t = true) : TyOk P t ⟨k, n, b, zero, eq⟩ := by
  cases hi : P.info? t with
  | none => rw [hi] at h; cases h
  | some i =>
    rw [hi] at h
    simp at h
    obtain ⟨e1, e2, e3⟩ := h
    exact ⟨⟨i, z, hi, e2, e3, e1, by omega, h2⟩, h3, ⟨d, hd, hk⟩, he⟩
theorem VRs_rep {m : List Place} (n : Nat) (a : AV) (v : Value) (h : VR m a v) : VRs m (List.replicate n a) (Value.agg (List.replicate n v).toArray).cells.toList := by
  show VRs m _ (List.replicate n v).toArray.toList
  induction n with
  | zero => rfl
  | succ n ih => exact ⟨v, List.replicate n v, by simp [List.replicate_succ], h, by simpa using ih⟩
theorem one_rep (n : Nat) (a : AV) (h : a.one = true) : ∀ b ∈ List.replicate n a, b.one = true := by
  intro b hb
  rw [List.eq_of_mem_replicate hb]
  exact h
theorem mixed : Try.prog.follows .mixedOrders = true := by kernel_rfl
def tab : Tab
  | 2 => some ⟨.int .i64, 1, 8, [.int .i64 0], false⟩
  | 3 => some ⟨.int .i64, 1, 8, [.int .i64 0], false⟩
  | 4 => some ⟨.bool, 1, 1, [.bool false], false⟩
  | 5 => some ⟨.int .u8, 1, 1, [.int .u8 0], false⟩
  | 12 => some ⟨.int .u64, 1, 8, [.int .u64 0], false⟩
  | 21 => some ⟨.int .i32, 1, 4, [.int .i32 0], false⟩
  | 22 => some ⟨.slice 3, 1, 24, [.nil], false⟩
  | 26 => some ⟨.slice 73, 1, 24, [.nil], false⟩
  | 29 => some ⟨.slice 70, 1, 24, [.nil], false⟩
  | 34 => some ⟨.slice 42, 1, 24, [.nil], false⟩
  | 37 => some ⟨.slice 46, 1, 24, [.nil], false⟩
  | 41 => some ⟨.struct [(0, 22), (1, 3)], 2, 32, [.nil, .int .i64 0], false⟩
  | 42 => some ⟨.struct [(0, 22), (1, 3)], 2, 32, [.nil, .int .i64 0], false⟩
  | 46 => some ⟨.struct [(0, 22), (1, 3)], 2, 32, [.nil, .int .i64 0], false⟩
  | 52 => some ⟨.slice 5, 1, 24, [.nil], false⟩
  | 59 => some ⟨.slice 93, 1, 24, [.nil], false⟩
  | 63 => some ⟨.slice 91, 1, 24, [.nil], false⟩
  | 69 => some ⟨.struct [(0, 3), (1, 3), (2, 3)], 3, 24, [.int .i64 0, .int .i64 0, .int .i64 0], true⟩
  | 70 => some ⟨.struct [(0, 3), (1, 3), (2, 3)], 3, 24, [.int .i64 0, .int .i64 0, .int .i64 0], true⟩
  | 73 => some ⟨.struct [(0, 3), (1, 3), (2, 3)], 3, 24, [.int .i64 0, .int .i64 0, .int .i64 0], true⟩
  | 80 => some ⟨.int .u64, 1, 8, [.int .u64 0], false⟩
  | 81 => some ⟨.struct [(0, 52), (1, 3), (2, 80)], 3, 40, [.nil, .int .i64 0, .int .u64 0], false⟩
  | 82 => some ⟨.struct [(0, 52), (1, 3), (2, 80)], 3, 40, [.nil, .int .i64 0, .int .u64 0], false⟩
  | 90 => some ⟨.struct [(0, 3), (1, 3)], 2, 16, [.int .i64 0, .int .i64 0], true⟩
  | 91 => some ⟨.struct [(0, 3), (1, 3)], 2, 16, [.int .i64 0, .int .i64 0], true⟩
  | 93 => some ⟨.struct [(0, 3), (1, 3)], 2, 16, [.int .i64 0, .int .i64 0], true⟩
  | 95 => some ⟨.arr 8 4, 8, 8, List.replicate 8 (.bool false), true⟩
  | 96 => some ⟨.arr 8 95, 64, 64, List.replicate 64 (.bool false), false⟩
  | 100 => some ⟨.int .u64, 1, 8, [.int .u64 0], false⟩
  | 107 => some ⟨.int .u32, 1, 4, [.int .u32 0], false⟩
  | _ => none
theorem ty2 : TyOk Try.prog 2 ⟨.int .i64, 1, 8, [.int .i64 0], false⟩ := tyOk (z := .int .i64 0) (by kernel_rfl) rfl ⟨_, _, rfl, rfl, rfl⟩ (by simp [AV.one]) Try.underlying2 rfl (fun h => by cases h)
theorem ty3 : TyOk Try.prog 3 ⟨.int .i64, 1, 8, [.int .i64 0], false⟩ := tyOk (z := .int .i64 0) (by kernel_rfl) rfl ⟨_, _, rfl, rfl, rfl⟩ (by simp [AV.one]) Try.underlying3 rfl (fun h => by cases h)
theorem ty4 : TyOk Try.prog 4 ⟨.bool, 1, 1, [.bool false], false⟩ := tyOk (z := .bool false) (by kernel_rfl) rfl ⟨_, _, rfl, rfl, rfl⟩ (by simp [AV.one]) Try.underlying4 rfl (fun h => by cases h)
theorem ty5 : TyOk Try.prog 5 ⟨.int .u8, 1, 1, [.int .u8 0], false⟩ := tyOk (z := .int .u8 0) (by kernel_rfl) rfl ⟨_, _, rfl, rfl, rfl⟩ (by simp [AV.one]) Try.underlying5 rfl (fun h => by cases h)
theorem ty12 : TyOk Try.prog 12 ⟨.int .u64, 1, 8, [.int .u64 0], false⟩ := tyOk (z := .int .u64 0) (by kernel_rfl) rfl ⟨_, _, rfl, rfl, rfl⟩ (by simp [AV.one]) Try.underlying12 rfl (fun h => by cases h)
theorem ty21 : TyOk Try.prog 21 ⟨.int .i32, 1, 4, [.int .i32 0], false⟩ := tyOk (z := .int .i32 0) (by kernel_rfl) rfl ⟨_, _, rfl, rfl, rfl⟩ (by simp [AV.one]) Try.underlying21 rfl (fun h => by cases h)
theorem ty22 : TyOk Try.prog 22 ⟨.slice 3, 1, 24, [.nil], false⟩ := tyOk (z := .slice none 0 0) (by kernel_rfl) rfl ⟨_, _, rfl, ⟨none, rfl⟩, rfl⟩ (by simp [AV.one]) Try.underlying22 rfl (fun h => by cases h)
theorem ty26 : TyOk Try.prog 26 ⟨.slice 73, 1, 24, [.nil], false⟩ := tyOk (z := .slice none 0 0) (by kernel_rfl) rfl ⟨_, _, rfl, ⟨none, rfl⟩, rfl⟩ (by simp [AV.one]) Try.underlying26 rfl (fun h => by cases h)
theorem ty29 : TyOk Try.prog 29 ⟨.slice 70, 1, 24, [.nil], false⟩ := tyOk (z := .slice none 0 0) (by kernel_rfl) rfl ⟨_, _, rfl, ⟨none, rfl⟩, rfl⟩ (by simp [AV.one]) Try.underlying29 rfl (fun h => by cases h)
theorem ty34 : TyOk Try.prog 34 ⟨.slice 42, 1, 24, [.nil], false⟩ := tyOk (z := .slice none 0 0) (by kernel_rfl) rfl ⟨_, _, rfl, ⟨none, rfl⟩, rfl⟩ (by simp [AV.one]) Try.underlying34 rfl (fun h => by cases h)
theorem ty37 : TyOk Try.prog 37 ⟨.slice 46, 1, 24, [.nil], false⟩ := tyOk (z := .slice none 0 0) (by kernel_rfl) rfl ⟨_, _, rfl, ⟨none, rfl⟩, rfl⟩ (by simp [AV.one]) Try.underlying37 rfl (fun h => by cases h)
theorem ty41 : TyOk Try.prog 41 ⟨.struct [(0, 22), (1, 3)], 2, 32, [.nil, .int .i64 0], false⟩ := tyOk (z := .agg #[.slice none 0 0, .int .i64 0]) (by kernel_rfl) rfl ⟨_, _, rfl, ⟨none, rfl⟩, ⟨_, _, rfl, rfl, rfl⟩⟩ (by simp [AV.one]) Try.underlying41 ⟨_, rfl, rfl⟩ (fun h => by cases h)
theorem ty42 : TyOk Try.prog 42 ⟨.struct [(0, 22), (1, 3)], 2, 32, [.nil, .int .i64 0], false⟩ := tyOk (z := .agg #[.slice none 0 0, .int .i64 0]) (by kernel_rfl) rfl ⟨_, _, rfl, ⟨none, rfl⟩, ⟨_, _, rfl, rfl, rfl⟩⟩ (by simp [AV.one]) Try.underlying42 ⟨_, rfl, rfl⟩ (fun h => by cases h)
theorem ty46 : TyOk Try.prog 46 ⟨.struct [(0, 22), (1, 3)], 2, 32, [.nil, .int .i64 0], false⟩ := tyOk (z := .agg #[.slice none 0 0, .int .i64 0]) (by kernel_rfl) rfl ⟨_, _, rfl, ⟨none, rfl⟩, ⟨_, _, rfl, rfl, rfl⟩⟩ (by simp [AV.one]) Try.underlying46 ⟨_, rfl, rfl⟩ (fun h => by cases h)
theorem ty52 : TyOk Try.prog 52 ⟨.slice 5, 1, 24, [.nil], false⟩ := tyOk (z := .slice none 0 0) (by kernel_rfl) rfl ⟨_, _, rfl, ⟨none, rfl⟩, rfl⟩ (by simp [AV.one]) Try.underlying52 rfl (fun h => by cases h)
theorem ty59 : TyOk Try.prog 59 ⟨.slice 93, 1, 24, [.nil], false⟩ := tyOk (z := .slice none 0 0) (by kernel_rfl) rfl ⟨_, _, rfl, ⟨none, rfl⟩, rfl⟩ (by simp [AV.one]) Try.underlying59 rfl (fun h => by cases h)
theorem ty63 : TyOk Try.prog 63 ⟨.slice 91, 1, 24, [.nil], false⟩ := tyOk (z := .slice none 0 0) (by kernel_rfl) rfl ⟨_, _, rfl, ⟨none, rfl⟩, rfl⟩ (by simp [AV.one]) Try.underlying63 rfl (fun h => by cases h)
theorem ty69 : TyOk Try.prog 69 ⟨.struct [(0, 3), (1, 3), (2, 3)], 3, 24, [.int .i64 0, .int .i64 0, .int .i64 0], true⟩ := tyOk (z := .agg #[.int .i64 0, .int .i64 0, .int .i64 0]) (by kernel_rfl) rfl ⟨_, _, rfl, rfl, ⟨_, _, rfl, rfl, ⟨_, _, rfl, rfl, rfl⟩⟩⟩ (by simp [AV.one]) Try.underlying69 ⟨_, rfl, rfl⟩ (fun _ => ⟨by kernel_rfl, by kernel_rfl, by kernel_rfl⟩)
theorem ty70 : TyOk Try.prog 70 ⟨.struct [(0, 3), (1, 3), (2, 3)], 3, 24, [.int .i64 0, .int .i64 0, .int .i64 0], true⟩ := tyOk (z := .agg #[.int .i64 0, .int .i64 0, .int .i64 0]) (by kernel_rfl) rfl ⟨_, _, rfl, rfl, ⟨_, _, rfl, rfl, ⟨_, _, rfl, rfl, rfl⟩⟩⟩ (by simp [AV.one]) Try.underlying70 ⟨_, rfl, rfl⟩ (fun _ => ⟨by kernel_rfl, by kernel_rfl, by kernel_rfl⟩)
theorem ty73 : TyOk Try.prog 73 ⟨.struct [(0, 3), (1, 3), (2, 3)], 3, 24, [.int .i64 0, .int .i64 0, .int .i64 0], true⟩ := tyOk (z := .agg #[.int .i64 0, .int .i64 0, .int .i64 0]) (by kernel_rfl) rfl ⟨_, _, rfl, rfl, ⟨_, _, rfl, rfl, ⟨_, _, rfl, rfl, rfl⟩⟩⟩ (by simp [AV.one]) Try.underlying73 ⟨_, rfl, rfl⟩ (fun _ => ⟨by kernel_rfl, by kernel_rfl, by kernel_rfl⟩)
theorem ty80 : TyOk Try.prog 80 ⟨.int .u64, 1, 8, [.int .u64 0], false⟩ := tyOk (z := .int .u64 0) (by kernel_rfl) rfl ⟨_, _, rfl, rfl, rfl⟩ (by simp [AV.one]) Try.underlying80 rfl (fun h => by cases h)
theorem ty81 : TyOk Try.prog 81 ⟨.struct [(0, 52), (1, 3), (2, 80)], 3, 40, [.nil, .int .i64 0, .int .u64 0], false⟩ := tyOk (z := .agg #[.slice none 0 0, .int .i64 0, .int .u64 0]) (by kernel_rfl) rfl ⟨_, _, rfl, ⟨none, rfl⟩, ⟨_, _, rfl, rfl, ⟨_, _, rfl, rfl, rfl⟩⟩⟩ (by simp [AV.one]) Try.underlying81 ⟨_, rfl, rfl⟩ (fun h => by cases h)
theorem ty82 : TyOk Try.prog 82 ⟨.struct [(0, 52), (1, 3), (2, 80)], 3, 40, [.nil, .int .i64 0, .int .u64 0], false⟩ := tyOk (z := .agg #[.slice none 0 0, .int .i64 0, .int .u64 0]) (by kernel_rfl) rfl ⟨_, _, rfl, ⟨none, rfl⟩, ⟨_, _, rfl, rfl, ⟨_, _, rfl, rfl, rfl⟩⟩⟩ (by simp [AV.one]) Try.underlying82 ⟨_, rfl, rfl⟩ (fun h => by cases h)
theorem ty90 : TyOk Try.prog 90 ⟨.struct [(0, 3), (1, 3)], 2, 16, [.int .i64 0, .int .i64 0], true⟩ := tyOk (z := .agg #[.int .i64 0, .int .i64 0]) (by kernel_rfl) rfl ⟨_, _, rfl, rfl, ⟨_, _, rfl, rfl, rfl⟩⟩ (by simp [AV.one]) Try.underlying90 ⟨_, rfl, rfl⟩ (fun _ => ⟨by kernel_rfl, by kernel_rfl, by kernel_rfl⟩)
theorem ty91 : TyOk Try.prog 91 ⟨.struct [(0, 3), (1, 3)], 2, 16, [.int .i64 0, .int .i64 0], true⟩ := tyOk (z := .agg #[.int .i64 0, .int .i64 0]) (by kernel_rfl) rfl ⟨_, _, rfl, rfl, ⟨_, _, rfl, rfl, rfl⟩⟩ (by simp [AV.one]) Try.underlying91 ⟨_, rfl, rfl⟩ (fun _ => ⟨by kernel_rfl, by kernel_rfl, by kernel_rfl⟩)
theorem ty93 : TyOk Try.prog 93 ⟨.struct [(0, 3), (1, 3)], 2, 16, [.int .i64 0, .int .i64 0], true⟩ := tyOk (z := .agg #[.int .i64 0, .int .i64 0]) (by kernel_rfl) rfl ⟨_, _, rfl, rfl, ⟨_, _, rfl, rfl, rfl⟩⟩ (by simp [AV.one]) Try.underlying93 ⟨_, rfl, rfl⟩ (fun _ => ⟨by kernel_rfl, by kernel_rfl, by kernel_rfl⟩)
theorem ty95 : TyOk Try.prog 95 ⟨.arr 8 4, 8, 8, List.replicate 8 (.bool false), true⟩ := tyOk (z := .agg (List.replicate 8 (.bool false)).toArray) (by kernel_rfl) rfl (VRs_rep _ _ _ (by simp [VR])) (one_rep _ _ rfl) Try.underlying95 rfl (fun _ => ⟨by kernel_rfl, by kernel_rfl, by kernel_rfl⟩)
theorem ty96 : TyOk Try.prog 96 ⟨.arr 8 95, 64, 64, List.replicate 64 (.bool false), false⟩ := tyOk (z := .agg (List.replicate 64 (.bool false)).toArray) (by kernel_rfl) rfl (VRs_rep _ _ _ (by simp [VR])) (one_rep _ _ rfl) Try.underlying96 rfl (fun h => by cases h)
theorem ty100 : TyOk Try.prog 100 ⟨.int .u64, 1, 8, [.int .u64 0], false⟩ := tyOk (z := .int .u64 0) (by kernel_rfl) rfl ⟨_, _, rfl, rfl, rfl⟩ (by simp [AV.one]) Try.underlying100 rfl (fun h => by cases h)
theorem ty107 : TyOk Try.prog 107 ⟨.int .u32, 1, 4, [.int .u32 0], false⟩ := tyOk (z := .int .u32 0) (by kernel_rfl) rfl ⟨_, _, rfl, rfl, rfl⟩ (by simp [AV.one]) Try.underlying107 rfl (fun h => by cases h)
theorem tabOk : TabOk Try.prog tab := by
  intro t ty h
  unfold tab at h
  split at h
  · cases h; exact ty2
  · cases h; exact ty3
  · cases h; exact ty4
  · cases h; exact ty5
  · cases h; exact ty12
  · cases h; exact ty21
  · cases h; exact ty22
  · cases h; exact ty26
  · cases h; exact ty29
  · cases h; exact ty34
  · cases h; exact ty37
  · cases h; exact ty41
  · cases h; exact ty42
  · cases h; exact ty46
  · cases h; exact ty52
  · cases h; exact ty59
  · cases h; exact ty63
  · cases h; exact ty69
  · cases h; exact ty70
  · cases h; exact ty73
  · cases h; exact ty80
  · cases h; exact ty81
  · cases h; exact ty82
  · cases h; exact ty90
  · cases h; exact ty91
  · cases h; exact ty93
  · cases h; exact ty95
  · cases h; exact ty96
  · cases h; exact ty100
  · cases h; exact ty107
  · cases h
end Go.Proofs.Ytmmohcledhenfaa.Am
