/- The program's WidenRange answers as the reference's for all pairs of ranges, and its answer shares no memory. Conditions: none beyond those of the given statement. -/
import Derived.Test.YtfndikfaibbjoaaKit
import Derived.Test.YtfndikfaibbjoaaQFnExactWidenRangex2
import Derived.Test.YtfndikfaibbjoaaQFnExactWidenRangex1
namespace Go.Proofs.Ytfndikfaibbjoaa.Pure
open Go.RowKit Go.Proofs.Ytfndikfaibbjoaa.QFnExactWidenRange Go.Proofs.YtfndikfaibbjoaaW.PrintWords Go.Proofs.YtfndikfaibbjoaaW.PrintLast Go.Proofs.YtfndikfaibbjoaaW.PrintMore Go.Proofs.Ytfndikfaibbjoaa.Kit
set_option linter.unusedSimpArgs false
set_option linter.unusedVariables false

theorem good_range_same (e : Bool) (l h : Int) : ∃ r, spec_GoodRange.f e l h = some r ∧ impl_isSpan.f e l h = some r := by
  unfold spec_GoodRange.f impl_isSpan.f spec_l1Word.f impl_isWord.f
  cases e
  · simp only [spec_l1In.f, impl_in.f, Bool.false_eq_true, if_false]
    by_cases c1 : 0 ≤ l <;> by_cases c2 : l ≤ 65535 <;> by_cases c3 : l ≤ h <;> by_cases c4 : h ≤ 65535 <;> by_cases c5 : 0 ≤ h <;>
      first | (exfalso; omega) | simp [c1, c2, c3, c4, c5]
  · by_cases c : l = 0 <;> simp [c]
theorem eq_range_self (e : Bool) (l h : Int) : laws_eqRange.f e l h e l h = some true := by
  unfold laws_eqRange.f
  simp

theorem widen_same (e : Bool) (l h : Int) (e1 : Bool) (l1 h1 : Int) : ∃ r, spec_l6Widen.f e l h e1 l1 h1 = some r ∧ impl_widen.f e l h e1 l1 h1 = some r := by
  have e2 : spec_l6Widen.f e l h e1 l1 h1 = impl_widen.f e l h e1 l1 h1 := rfl
  unfold spec_l6Widen.f at *
  unfold impl_widen.f
  cases e <;> cases e1 <;> by_cases c1 : l1 < l <;> by_cases c2 : h1 > h <;> simp [c1, c2]
theorem widen_range_same (e : Bool) (l h : Int) (e1 : Bool) (l1 h1 : Int) : ∃ r, spec_WidenRange.f e l h e1 l1 h1 = some r ∧ impl_WidenRange.f e l h e1 l1 h1 = some r := by
  unfold spec_WidenRange.f impl_WidenRange.f
  obtain ⟨a, ha, ha'⟩ := good_range_same e l h
  obtain ⟨b, hb, hb'⟩ := good_range_same e1 l1 h1
  obtain ⟨c, hc, hc'⟩ := widen_same e l h e1 l1 h1
  rw [ha, ha', hb, hb', hc, hc']
  cases a <;> cases b <;> simp
theorem FnExactWidenRange : laws_FnExactWidenRange.Pure := by
  intro e l h e1 l1 h1 _ _ _ _
  obtain ⟨r, h1, h2⟩ := widen_range_same e l h e1 l1 h1
  unfold laws_FnExactWidenRange.f laws_toRange.f
  simp only [Option.bind_some]
  rw [h1, h2]
  simp only [Option.bind_some, eq_range_self]
  simp

end Go.Proofs.Ytfndikfaibbjoaa.Pure
