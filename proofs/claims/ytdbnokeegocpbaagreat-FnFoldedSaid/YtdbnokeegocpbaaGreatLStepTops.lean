/- Joins of facts at the top, and rows of words compared. No condition. -/
import Derived.Test.YtdbnokeegocpbaaGreatLFactTops
import Derived.Test.YtdbnokeegocpbaaGreatLRun
namespace Go.Proofs.YtdbnokeegocpbaaGreat.Am
open Go Go.RowKit
set_option linter.unusedSimpArgs false
set_option linter.unusedVariables false

def joinRes (a b : Fct) : Fct × Bool := if GoodFc a ∧ GoodFc b then (joinF a b, true) else (botF, false)
theorem below_joinF (a b : Fct) : belowF a (joinF a b) ∧ belowF b (joinF a b) := by
  unfold joinF
  split
  next h => exact ⟨.inl h, .inr (.inl rfl)⟩
  next h =>
    split
    next h2 =>
      refine ⟨.inr (.inl rfl), ?_⟩
      rcases h2 with h2 | h2
      · exact .inl h2
      · exact .inr (.inl h2.symm)
    next h2 => exact ⟨below_bot a, below_bot b⟩
theorem sameInts_ok (L : List Int) (v v' : AV) (H : Hp) (hm : L.length ≤ 1048576) (hv : Row 1 H v (ints L)) (hv' : Row 1 H v' (ints L)) : T Tryz.prog 10 [v, v'] H (fun r K => r = .bool true ∧ K = H) := by
  refine T.by tabOk Tryz.func10 (by kernel_rfl) rfl _ (by simp [Tryz.f10]) H _ ?_
  have hlen := hv.len 3
  have hlen' := hv'.len 3
  simp only [ints_length] at hlen hlen'
  simp [Tryz.f10, tab, hlen, hlen']
  refine W_loop _ fun I hI => ?_
  have key : ∀ (r p : List Int) (ts : TS), L = p ++ r → (ts 0 = v ∧ ts 1 = v' ∧ ts 12 = .int .i64 L.length ∧ ts 13 = .int .i64 p.length) → I ts H := by
    intro r
    induction r with
    | nil =>
      intro p ts e hts
      apply hI
      simp at e
      subst e
      simp [hts, tab]
    | cons a r ih =>
      intro p ts e hts
      apply hI
      have hlt : (p.length : Int) < L.length := by simp [e]; omega
      obtain ⟨b, q, _, e1, e2⟩ := Row.get1 hv (tab := tab) (e := 3) (ety := tI) rfl rfl rfl (i := p.length) (a := a) (by simp [e]) .i64
      obtain ⟨b', q', _, e1', e2'⟩ := Row.get1 hv' (tab := tab) (e := 3) (ety := tI) rfl rfl rfl (i := p.length) (a := a) (by simp [e]) .i64
      have hw := wrap64 (x := (p.length : Int) + 1) (by omega) (by omega)
      simp [hts, tab, hlt]
      refine W_draw mixed (.look 0 (.look 1 (.look 2 (.look 3 (.look 4 (.look 5 (.look 6 (.look 7 (.look 8 .done))))))))) (by kernel_rfl) ?_
      simp [hts, tab, e1, e2, e1', e2', hw]
      exact ih (p ++ [a]) _ (by simp [e]) (by simp [hts])
  exact key L [] _ rfl (by simp)
end Go.Proofs.YtdbnokeegocpbaaGreat.Am
