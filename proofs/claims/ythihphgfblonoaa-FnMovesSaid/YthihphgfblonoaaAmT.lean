/- The types of the seat Ythihphgfblonoaa for the abstract heap. No condition. -/
import Derived.Test.YthihphgfblonoaaAm12
import Derived.Test.YthihphgfblonoaaProg
import Derived.KernelRfl
namespace Go.Proofs.Ythihphgfblonoaa.Am
open Go Go.RowKit
theorem tyOk {P : Program} {t : TypeId} {k : TyK} {n b : Nat} {zero : List AV} {eq : Bool} {z : Value} {d : TypeDesc} (h : (P.info? t).map (fun i => (i.zero, i.size, i.bytes)) = some (some z, n, b)) (h1 : z.cells.size = n) (h2 : VRs [] zero z.cells.toList) (h3 : ∀ a ∈ zero, a.one = true) (hd : P.underlying t = some d) (hk : kindOk d k) (he : eq = true → P.stoodInHeld t = false ∧ P.eqGuardType P.depth t = false ∧ namesOk P t = true) : TyOk P t ⟨k, n, b, zero, eq⟩ := by
  cases hi : P.info? t with
  | none => rw [hi] at h; cases h
  | some i =>
    rw [hi] at h
    simp at h
    obtain ⟨e1, e2, e3⟩ := h
    exact ⟨⟨i, z, hi, e2, e3, e1, by omega, h2⟩, h3, ⟨d, hd, hk⟩, he⟩
theorem VRs_rep {m : List Place} (n : Nat) (a : AV) (v : Value) (h : VR m a v) : VRs m (List.replicate n a) (Value.agg (List.replicate n v).toArray).cells.toList := by
  show VRs m _ (List.replicate n v).toArray.toList
  induction n with
  | zero => rfl
  | succ n ih => exact ⟨v, List.replicate n v, by simp [List.replicate_succ], h, by simpa using ih⟩
theorem one_rep (n : Nat) (a : AV) (h : a.one = true) : ∀ b ∈ List.replicate n a, b.one = true := by
  intro b hb
  rw [List.eq_of_mem_replicate hb]
  exact h
theorem mixed : Try.prog.follows .mixedOrders = true := by kernel_rfl
def tab : Tab
  | 2 => some ⟨.int .i64, 1, 8, [.int .i64 0], false⟩
  | 3 => some ⟨.int .i64, 1, 8, [.int .i64 0], false⟩
  | 4 => some ⟨.bool, 1, 1, [.bool false], false⟩
  | 5 => some ⟨.int .u8, 1, 1, [.int .u8 0], false⟩
  | 12 => some ⟨.int .u64, 1, 8, [.int .u64 0], false⟩
  | 21 => some ⟨.int .i32, 1, 4, [.int .i32 0], false⟩
  | 22 => some ⟨.slice 58, 1, 24, [.nil], false⟩
  | 25 => some ⟨.slice 51, 1, 24, [.nil], false⟩
  | 29 => some ⟨.slice 3, 1, 24, [.nil], false⟩
  | 39 => some ⟨.slice 29, 1, 24, [.nil], false⟩
  | 48 => some ⟨.slice 5, 1, 24, [.nil], false⟩
  | 50 => some ⟨.struct [(0, 3), (1, 3)], 2, 16, [.int .i64 0, .int .i64 0], true⟩
  | 51 => some ⟨.struct [(0, 3), (1, 3)], 2, 16, [.int .i64 0, .int .i64 0], true⟩
  | 58 => some ⟨.struct [(0, 3), (1, 3)], 2, 16, [.int .i64 0, .int .i64 0], true⟩
  | 68 => some ⟨.int .u64, 1, 8, [.int .u64 0], false⟩
  | 69 => some ⟨.struct [(0, 48), (1, 3), (2, 68)], 3, 40, [.nil, .int .i64 0, .int .u64 0], false⟩
  | 70 => some ⟨.struct [(0, 48), (1, 3), (2, 68)], 3, 40, [.nil, .int .i64 0, .int .u64 0], false⟩
  | 73 => some ⟨.arr 10 4, 10, 10, List.replicate 10 (.bool false), true⟩
  | 84 => some ⟨.int .u64, 1, 8, [.int .u64 0], false⟩
  | 91 => some ⟨.int .u32, 1, 4, [.int .u32 0], false⟩
  | _ => none
theorem ty2 : TyOk Try.prog 2 ⟨.int .i64, 1, 8, [.int .i64 0], false⟩ := tyOk (z := .int .i64 0) (by kernel_rfl) rfl ⟨_, _, rfl, rfl, rfl⟩ (by simp [AV.one]) Try.underlying2 rfl (fun h => by cases h)
theorem ty3 : TyOk Try.prog 3 ⟨.int .i64, 1, 8, [.int .i64 0], false⟩ := tyOk (z := .int .i64 0) (by kernel_rfl) rfl ⟨_, _, rfl, rfl, rfl⟩ (by simp [AV.one]) Try.underlying3 rfl (fun h => by cases h)
theorem ty4 : TyOk Try.prog 4 ⟨.bool, 1, 1, [.bool false], false⟩ := tyOk (z := .bool false) (by kernel_rfl) rfl ⟨_, _, rfl, rfl, rfl⟩ (by simp [AV.one]) Try.underlying4 rfl (fun h => by cases h)
theorem ty5 : TyOk Try.prog 5 ⟨.int .u8, 1, 1, [.int .u8 0], false⟩ := tyOk (z := .int .u8 0) (by kernel_rfl) rfl ⟨_, _, rfl, rfl, rfl⟩ (by simp [AV.one]) Try.underlying5 rfl (fun h => by cases h)
theorem ty12 : TyOk Try.prog 12 ⟨.int .u64, 1, 8, [.int .u64 0], false⟩ := tyOk (z := .int .u64 0) (by kernel_rfl) rfl ⟨_, _, rfl, rfl, rfl⟩ (by simp [AV.one]) Try.underlying12 rfl (fun h => by cases h)
theorem ty21 : TyOk Try.prog 21 ⟨.int .i32, 1, 4, [.int .i32 0], false⟩ := tyOk (z := .int .i32 0) (by kernel_rfl) rfl ⟨_, _, rfl, rfl, rfl⟩ (by simp [AV.one]) Try.underlying21 rfl (fun h => by cases h)
theorem ty22 : TyOk Try.prog 22 ⟨.slice 58, 1, 24, [.nil], false⟩ := tyOk (z := .slice none 0 0) (by kernel_rfl) rfl ⟨_, _, rfl, ⟨none, rfl⟩, rfl⟩ (by simp [AV.one]) Try.underlying22 rfl (fun h => by cases h)
theorem ty25 : TyOk Try.prog 25 ⟨.slice 51, 1, 24, [.nil], false⟩ := tyOk (z := .slice none 0 0) (by kernel_rfl) rfl ⟨_, _, rfl, ⟨none, rfl⟩, rfl⟩ (by simp [AV.one]) Try.underlying25 rfl (fun h => by cases h)
theorem ty29 : TyOk Try.prog 29 ⟨.slice 3, 1, 24, [.nil], false⟩ := tyOk (z := .slice none 0 0) (by kernel_rfl) rfl ⟨_, _, rfl, ⟨none, rfl⟩, rfl⟩ (by simp [AV.one]) Try.underlying29 rfl (fun h => by cases h)
theorem ty39 : TyOk Try.prog 39 ⟨.slice 29, 1, 24, [.nil], false⟩ := tyOk (z := .slice none 0 0) (by kernel_rfl) rfl ⟨_, _, rfl, ⟨none, rfl⟩, rfl⟩ (by simp [AV.one]) Try.underlying39 rfl (fun h => by cases h)
theorem ty48 : TyOk Try.prog 48 ⟨.slice 5, 1, 24, [.nil], false⟩ := tyOk (z := .slice none 0 0) (by kernel_rfl) rfl ⟨_, _, rfl, ⟨none, rfl⟩, rfl⟩ (by simp [AV.one]) Try.underlying48 rfl (fun h => by cases h)
theorem ty50 : TyOk Try.prog 50 ⟨.struct [(0, 3), (1, 3)], 2, 16, [.int .i64 0, .int .i64 0], true⟩ := tyOk (z := .agg #[.int .i64 0, .int .i64 0]) (by kernel_rfl) rfl ⟨_, _, rfl, rfl, ⟨_, _, rfl, rfl, rfl⟩⟩ (by simp [AV.one]) Try.underlying50 ⟨_, rfl, rfl⟩ (fun _ => ⟨by kernel_rfl, by kernel_rfl, by kernel_rfl⟩)
theorem ty51 : TyOk Try.prog 51 ⟨.struct [(0, 3), (1, 3)], 2, 16, [.int .i64 0, .int .i64 0], true⟩ := tyOk (z := .agg #[.int .i64 0, .int .i64 0]) (by kernel_rfl) rfl ⟨_, _, rfl, rfl, ⟨_, _, rfl, rfl, rfl⟩⟩ (by simp [AV.one]) Try.underlying51 ⟨_, rfl, rfl⟩ (fun _ => ⟨by kernel_rfl, by kernel_rfl, by kernel_rfl⟩)
theorem ty58 : TyOk Try.prog 58 ⟨.struct [(0, 3), (1, 3)], 2, 16, [.int .i64 0, .int .i64 0], true⟩ := tyOk (z := .agg #[.int .i64 0, .int .i64 0]) (by kernel_rfl) rfl ⟨_, _, rfl, rfl, ⟨_, _, rfl, rfl, rfl⟩⟩ (by simp [AV.one]) Try.underlying58 ⟨_, rfl, rfl⟩ (fun _ => ⟨by kernel_rfl, by kernel_rfl, by kernel_rfl⟩)
theorem ty68 : TyOk Try.prog 68 ⟨.int .u64, 1, 8, [.int .u64 0], false⟩ := tyOk (z := .int .u64 0) (by kernel_rfl) rfl ⟨_, _, rfl, rfl, rfl⟩ (by simp [AV.one]) Try.underlying68 rfl (fun h => by cases h)
theorem ty69 : TyOk Try.prog 69 ⟨.struct [(0, 48), (1, 3), (2, 68)], 3, 40, [.nil, .int .i64 0, .int .u64 0], false⟩ := tyOk (z := .agg #[.slice none 0 0, .int .i64 0, .int .u64 0]) (by kernel_rfl) rfl ⟨_, _, rfl, ⟨none, rfl⟩, ⟨_, _, rfl, rfl, ⟨_, _, rfl, rfl, rfl⟩⟩⟩ (by simp [AV.one]) Try.underlying69 ⟨_, rfl, rfl⟩ (fun h => by cases h)
theorem ty70 : TyOk Try.prog 70 ⟨.struct [(0, 48), (1, 3), (2, 68)], 3, 40, [.nil, .int .i64 0, .int .u64 0], false⟩ := tyOk (z := .agg #[.slice none 0 0, .int .i64 0, .int .u64 0]) (by kernel_rfl) rfl ⟨_, _, rfl, ⟨none, rfl⟩, ⟨_, _, rfl, rfl, ⟨_, _, rfl, rfl, rfl⟩⟩⟩ (by simp [AV.one]) Try.underlying70 ⟨_, rfl, rfl⟩ (fun h => by cases h)
theorem ty73 : TyOk Try.prog 73 ⟨.arr 10 4, 10, 10, List.replicate 10 (.bool false), true⟩ := tyOk (z := .agg (List.replicate 10 (.bool false)).toArray) (by kernel_rfl) rfl (VRs_rep _ _ _ (by simp [VR])) (one_rep _ _ rfl) Try.underlying73 rfl (fun _ => ⟨by kernel_rfl, by kernel_rfl, by kernel_rfl⟩)
theorem ty84 : TyOk Try.prog 84 ⟨.int .u64, 1, 8, [.int .u64 0], false⟩ := tyOk (z := .int .u64 0) (by kernel_rfl) rfl ⟨_, _, rfl, rfl, rfl⟩ (by simp [AV.one]) Try.underlying84 rfl (fun h => by cases h)
theorem ty91 : TyOk Try.prog 91 ⟨.int .u32, 1, 4, [.int .u32 0], false⟩ := tyOk (z := .int .u32 0) (by kernel_rfl) rfl ⟨_, _, rfl, rfl, rfl⟩ (by simp [AV.one]) Try.underlying91 rfl (fun h => by cases h)
theorem tabOk : TabOk Try.prog tab := by
  intro t ty h
  unfold tab at h
  split at h
  · cases h; exact ty2
  · cases h; exact ty3
  · cases h; exact ty4
  · cases h; exact ty5
  · cases h; exact ty12
  · cases h; exact ty21
  · cases h; exact ty22
  · cases h; exact ty25
  · cases h; exact ty29
  · cases h; exact ty39
  · cases h; exact ty48
  · cases h; exact ty50
  · cases h; exact ty51
  · cases h; exact ty58
  · cases h; exact ty68
  · cases h; exact ty69
  · cases h; exact ty70
  · cases h; exact ty73
  · cases h; exact ty84
  · cases h; exact ty91
  · cases h
end Go.Proofs.Ythihphgfblonoaa.Am
