/- The laws' own helpers for []int. No condition. -/
import Derived.Test.YtdbnokeegocpbaaGreatAmT
import Derived.Test.YtdbnokeegocpbaaGreatAmOpen
namespace Go.Proofs.YtdbnokeegocpbaaGreat.Am
open Go Go.RowKit
set_option linter.unusedSimpArgs false
set_option linter.unusedVariables false

abbrev tI : Ty := ⟨.int .i64, 1, 8, [.int .i64 0], false⟩
def ints (l : List Int) : List (List AV) := l.map fun x => [.int .i64 x]
@[simp] theorem ints_length (l : List Int) : (ints l).length = l.length := by simp [ints]
theorem ints_append (l l' : List Int) : ints (l ++ l') = ints l ++ ints l' := by simp [ints]
theorem ints_get {l : List Int} {i : Nat} {x : Int} (h : l[i]? = some x) : (ints l)[i]? = some [.int .i64 x] := by simp [ints, h]
theorem ints_one (l : List Int) : ∀ e ∈ ints l, e.length = 1 := by
  intro e he
  simp [ints] at he
  obtain ⟨x, _, rfl⟩ := he
  rfl
theorem ints_flatten (l : List Int) : (ints l).flatten = l.map (AV.int .i64) := by
  induction l with
  | nil => rfl
  | cons a l ih => simp [ints] at ih ⊢; exact ih
/-- So many numbers from k on. -/
def up (k : Int) : Nat → List Int
  | 0 => []
  | n + 1 => k :: up (k + 1) n
@[simp] theorem up_length (k : Int) (n : Nat) : (up k n).length = n := by
  induction n generalizing k with
  | zero => rfl
  | succ n ih => simp [up, ih]
theorem up_snoc (k : Int) (n : Nat) : up k (n + 1) = up k n ++ [k + n] := by
  induction n generalizing k with
  | zero => simp [up]
  | succ n ih =>
    rw [up, ih, up]
    simp
    omega
end Go.Proofs.YtdbnokeegocpbaaGreat.Am
