/- Plain lemmas on lists, whole numbers and rounds, for the statements of the seat Ythihphgfblonoaa. No condition. -/
import Derived.Test.YthihphgfblonoaaWMore
namespace Go.Proofs.Ythihphgfblonoaa.Kit
open Go.RowKit Go.Proofs.YthihphgfblonoaaW.PrintWords Go.Proofs.YthihphgfblonoaaW.PrintLast

theorem w64 {x : Int} (h0 : -9223372036854775808 ≤ x) (h1 : x ≤ 9223372036854775807) : wrap64 x = x := by
  unfold wrap64
  omega
theorem w64_succ {i : Int} {n : Nat} (h0 : 0 ≤ i) (h : i < (n : Int)) (hn : n ≤ 140737488355328) : wrap64 (i + 1) = i + 1 := w64 (by omega) (by omega)
theorem rd_nat (l : List Int) (i : Nat) (h : i < l.length) : rd l (i : Int) = l[i] := by
  unfold rd
  simp [h]
theorem rd_lt (l : List Int) (i : Int) (h0 : 0 ≤ i) (h : i < (l.length : Int)) : rd l i = l[i.toNat]'(by omega) := by
  unfold rd
  have : i.toNat < l.length := by omega
  simp [this]
theorem rounds {k d : Nat} (h : d < k) : ∃ m, k = m + 1 := ⟨k - 1, by omega⟩
theorem take_set_succ {α : Type} (l : List α) (i : Nat) (x : α) (h : i < l.length) : (l.set i x).take (i + 1) = l.take i ++ [x] := by
  rw [List.take_succ_eq_append_getElem (by simpa using h), List.take_set, List.set_eq_of_length_le (by simp; omega)]
  simp
theorem take_succ {α : Type} (l : List α) (i : Nat) (h : i < l.length) : l.take (i + 1) = l.take i ++ [l[i]] := by
  rw [List.take_succ_eq_append_getElem h]
theorem rd_app (p : List Int) (a : Int) (r : List Int) : rd (p ++ a :: r) (p.length : Int) = a := by
  rw [rd_nat _ _ (by simp)]
  simp
theorem app_cons {α : Type} (p : List α) (a : α) (r : List α) : p ++ a :: r = (p ++ [a]) ++ r := by simp
theorem len_snoc {α : Type} (p : List α) (a : α) : (((p ++ [a]).length : Nat) : Int) = (p.length : Int) + 1 := by simp
theorem len_app_cons {α : Type} (p : List α) (a : α) (r : List α) : (p ++ a :: r).length = p.length + r.length + 1 := by
  simp
  omega
theorem len_app {α : Type} (p r : List α) : (p ++ r).length = p.length + r.length := List.length_append
theorem set_app {α : Type} (p : List α) (a x : α) (r : List α) : (p ++ a :: r).set p.length x = p ++ x :: r := by simp
/-- A list of n numbers in which all below n stand has each once. -/
theorem nodup_bound : ∀ (n : Nat) (l : List Int), l.Nodup → (∀ x ∈ l, 0 ≤ x ∧ x < (n : Int)) → l.length ≤ n
  | 0, l, _, h => by
    cases l with
    | nil => simp
    | cons a l => have := h a (by simp); omega
  | n + 1, l, hn, h => by
    by_cases hm : (n : Int) ∈ l
    · have h1 := nodup_bound n (l.erase (n : Int)) (hn.erase _) (fun x hx => by
        have hx' := h x (List.mem_of_mem_erase hx)
        have hne : x ≠ (n : Int) := fun e => by rw [e] at hx; exact (List.Nodup.not_mem_erase hn) hx
        omega)
      rw [List.length_erase_of_mem hm] at h1
      omega
    · have h1 := nodup_bound n l hn (fun x hx => by
        have := h x hx
        have hne : x ≠ (n : Int) := fun e => by rw [e] at hx; exact hm hx
        omega)
      omega
theorem all_of_nodup (n : Nat) (l : List Int) (hn : l.Nodup) (h : ∀ x ∈ l, 0 ≤ x ∧ x < (n : Int)) (hl : l.length = n) (k : Int) (h0 : 0 ≤ k) (hk : k < (n : Int)) : k ∈ l := by
  apply Classical.byContradiction
  intro hm
  have h1 := nodup_bound n (k :: l) (List.nodup_cons.2 ⟨hm, hn⟩) (fun x hx => by
    rcases List.mem_cons.1 hx with rfl | hx
    · exact ⟨h0, hk⟩
    · exact h x hx)
  simp at h1
  omega
theorem nodup_of_all : ∀ (n : Nat) (l : List Int), l.length = n → (∀ k : Int, 0 ≤ k → k < (n : Int) → k ∈ l) → l.Nodup ∧ ∀ x ∈ l, 0 ≤ x ∧ x < (n : Int)
  | 0, l, hl, _ => by
    have : l = [] := List.length_eq_zero_iff.1 hl
    subst this
    simp
  | n + 1, l, hl, h => by
    have hm : (n : Int) ∈ l := h n (by omega) (by omega)
    have hlen := List.length_erase_of_mem hm
    obtain ⟨h1, h2⟩ := nodup_of_all n (l.erase (n : Int)) (by omega) (fun k h0 hk => by
      have := h k h0 (by omega)
      exact (List.mem_erase_of_ne (by omega)).2 this)
    have hp : l.Perm ((n : Int) :: l.erase (n : Int)) := List.perm_cons_erase hm
    constructor
    · refine hp.nodup_iff.2 (List.nodup_cons.2 ⟨fun hx => ?_, h1⟩)
      have := h2 _ hx
      omega
    · intro x hx
      rcases List.mem_cons.1 (hp.mem_iff.1 hx) with rfl | hx
      · omega
      · have := h2 x hx
        omega
end Go.Proofs.Ythihphgfblonoaa.Kit
