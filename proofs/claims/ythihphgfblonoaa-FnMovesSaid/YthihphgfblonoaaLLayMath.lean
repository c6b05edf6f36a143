/- Moves laid in turn: what comes. No condition. -/
import Derived.Test.YthihphgfblonoaaLRings
namespace Go.Proofs.Ythihphgfblonoaa.Am
open Go Go.RowKit
set_option linter.unusedSimpArgs false
set_option linter.unusedVariables false

def freeIn (left : List Move) (m : Move) : Bool := left.all fun o => o.fr != m.to
def freeAt (left : List Move) : Option Nat := left.findIdx? (freeIn left)
def emit : Nat → List Move → List Move → List Move × List Move
  | 0, left, out => (left, out)
  | n + 1, left, out => match freeAt left with
    | none => (left, out)
    | some i => emit n (left.eraseIdx i) (out ++ left[i]?.toList)
def chainOf (to : Int) : List Int → List Move
  | [] => [⟨10, to⟩]
  | x :: r => ⟨x, to⟩ :: chainOf x r
def ringMoves : List Int → List Move
  | [] => []
  | p :: r => ⟨p, 10⟩ :: chainOf p r.reverse
def left0 (l : List Move) : List Move := l.filter fun m => m.fr != m.to
def laid (l : List Move) : List Move × List Move := emit (left0 l).length (left0 l) []
def lay (l : List Move) : List Move := (laid l).2 ++ (rings (laid l).1).flatMap ringMoves
theorem freeAt_lt {left : List Move} {i : Nat} (h : freeAt left = some i) : i < left.length := by
  have := List.findIdx?_eq_some_iff_getElem.1 h
  exact this.1
theorem freeAt_nil : freeAt [] = none := rfl
theorem emit_nil (n : Nat) (out : List Move) : emit n [] out = ([], out) := by
  cases n <;> rfl
theorem chainOf_len (to : Int) (r : List Int) : (chainOf to r).length = r.length + 1 := by
  induction r generalizing to with
  | nil => rfl
  | cons x r ih => simp [chainOf, ih]
theorem ringMoves_len (r : List Int) : (ringMoves r).length ≤ r.length + 1 := by
  cases r with
  | nil => simp [ringMoves]
  | cons p r => simp [ringMoves, chainOf_len]
theorem emit_len : ∀ (n : Nat) (left out : List Move), (emit n left out).1.length + (emit n left out).2.length = left.length + out.length ∧ (emit n left out).1.length ≤ left.length
  | 0, left, out => by simp [emit]
  | n + 1, left, out => by
    unfold emit
    split
    · simp
    · rename_i i hi
      have hlt := freeAt_lt hi
      have := emit_len n (left.eraseIdx i) (out ++ left[i]?.toList)
      rw [List.length_eraseIdx_of_lt hlt, List.getElem?_eq_getElem hlt] at this
      simp at this
      rw [List.getElem?_eq_getElem hlt]
      simp
      omega
end Go.Proofs.Ythihphgfblonoaa.Am
