/- The program's AddRanges answers as the reference's for all pairs of ranges, and its answer shares no memory. Conditions: none beyond those of the given statement. -/
import Derived.Test.YtfndikfaibbjoaaKit
import Derived.Test.YtfndikfaibbjoaaQFnExactAddRangesx6
import Derived.Test.YtfndikfaibbjoaaQFnExactAddRangesx1
import Derived.Test.YtfndikfaibbjoaaQFnExactAddRangesx2
import Derived.Test.YtfndikfaibbjoaaQFnExactAddRangesx3
import Derived.Test.YtfndikfaibbjoaaQFnExactAddRangesx5
import Derived.Test.YtfndikfaibbjoaaQFnExactAddRangesx4
namespace Go.Proofs.Ytfndikfaibbjoaa.Pure
open Go.RowKit Go.Proofs.Ytfndikfaibbjoaa.QFnExactAddRanges Go.Proofs.YtfndikfaibbjoaaW.PrintWords Go.Proofs.YtfndikfaibbjoaaW.PrintLast Go.Proofs.YtfndikfaibbjoaaW.PrintMore Go.Proofs.Ytfndikfaibbjoaa.Kit
set_option linter.unusedSimpArgs false
set_option linter.unusedVariables false

theorem good_range_same (e : Bool) (l h : Int) : ∃ r, spec_GoodRange.f e l h = some r ∧ impl_isSpan.f e l h = some r := by
  unfold spec_GoodRange.f impl_isSpan.f spec_l1Word.f impl_isWord.f
  cases e
  · simp only [spec_l1In.f, impl_in.f, Bool.false_eq_true, if_false]
    by_cases c1 : 0 ≤ l <;> by_cases c2 : l ≤ 65535 <;> by_cases c3 : l ≤ h <;> by_cases c4 : h ≤ 65535 <;> by_cases c5 : 0 ≤ h <;>
      first | (exfalso; omega) | simp [c1, c2, c3, c4, c5]
  · by_cases c : l = 0 <;> simp [c]
theorem eq_range_self (e : Bool) (l h : Int) : laws_eqRange.f e l h e l h = some true := by
  unfold laws_eqRange.f
  simp

def span (lo hi : Int) : Bool × Int × Int := if lo < 0 ∨ hi > 65535 then (false, 0, 65535) else (false, lo, hi)
/-- Both bounds of two spans in one another: nothing between them. -/
def apart (l h l1 h1 : Int) : Bool := decide ((if l > l1 then l else l1) > (if h < h1 then h else h1))
def two (op : Int) (e : Bool) (l h : Int) (e1 : Bool) (l1 h1 : Int) : Bool × Int × Int :=
  if e = true ∨ e1 = true then (true, 0, 0) else if op = 3 then span (wrap64 (l + l1)) (wrap64 (h + h1)) else if op = 4 then span (wrap64 (l - h1)) (wrap64 (h - l1)) else if op = 5 then span (wrap64 (l * l1)) (wrap64 (h * h1))
  else if op = 6 then (if h < l1 then (false, 1, 1) else if l ≥ h1 then (false, 0, 0) else (false, 0, 1)) else if op = 7 then cond (apart l h l1 h1) (false, 0, 0) (false, 0, 1) else (false, 0, 1)
theorem spec_span (k : Nat) (lo hi : Int) : spec_l6Span.f (k + 1) lo hi = some (span lo hi) := by
  unfold spec_l6Span.f span
  simp only [spec_l6Span.j0]
  by_cases c1 : lo < 0 <;> by_cases c2 : hi > 65535 <;> simp [c1, c2]
theorem spec_meet (k : Nat) (l h l1 h1 : Int) : ∃ r, spec_l6Meet.f (k + 1) false l h false l1 h1 = some r ∧ r.1 = apart l h l1 h1 := by
  unfold spec_l6Meet.f spec_l6Most.f spec_l6Least.f apart
  simp only [spec_l6Meet.j0]
  by_cases c1 : l > l1 <;> by_cases c2 : h < h1 <;> simp only [c1, c2, if_true, if_false, Option.bind_some, Bool.false_eq_true]
  · by_cases c3 : l > h
    · exact ⟨_, by rw [if_pos (by simpa using c3)], by simpa using c3⟩
    · exact ⟨_, by rw [if_neg (by simpa using c3)], by simpa using c3⟩
  · by_cases c3 : l > h1
    · exact ⟨_, by rw [if_pos (by simpa using c3)], by simpa using c3⟩
    · exact ⟨_, by rw [if_neg (by simpa using c3)], by simpa using c3⟩
  · by_cases c3 : l1 > h
    · exact ⟨_, by rw [if_pos (by simpa using c3)], by simpa using c3⟩
    · exact ⟨_, by rw [if_neg (by simpa using c3)], by simpa using c3⟩
  · by_cases c3 : l1 > h1
    · exact ⟨_, by rw [if_pos (by simpa using c3)], by simpa using c3⟩
    · exact ⟨_, by rw [if_neg (by simpa using c3)], by simpa using c3⟩
theorem spec_two (k : Nat) (op : Int) (e : Bool) (l h : Int) (e1 : Bool) (l1 h1 : Int) : spec_l6Two.f (k + 2) op e l h e1 l1 h1 = some (two op e l h e1 l1 h1) := by
  unfold spec_l6Two.f two
  simp only [spec_l6Two.j0]
  cases e
  · cases e1
    · simp only [Bool.false_eq_true, if_false, or_self, spec_span, Option.bind_some]
      by_cases c3 : op = 3
      · simp [c3]
      · by_cases c4 : op = 4
        · simp [c4]
        · by_cases c5 : op = 5
          · simp [c5]
          · by_cases c6 : op = 6
            · simp only [c6]
              by_cases d1 : h < l1 <;> by_cases d2 : l ≥ h1 <;> simp [d1, d2]
            · simp only [c3, c4, c5, c6, if_false]
              obtain ⟨r, hr, ha⟩ := spec_meet k l h l1 h1
              by_cases c7 : op = 7
              · simp only [c7, if_true, hr, Option.bind_some, ha]
                cases apart l h l1 h1 <;> rfl
              · simp [c7]
    · simp
  · simp
theorem mx_if (a b : Int) : mx a b = (if a > b then a else b) := by
  unfold mx
  split <;> split <;> omega
theorem mn_if (a b : Int) : mn a b = (if a < b then a else b) := by
  unfold mn
  split <;> split <;> omega
theorem impl_meet (k : Nat) (l h l1 h1 : Int) : ∃ r, impl_meetRanges.f (k + 1) false l h false l1 h1 = some r ∧ r.1 = apart l h l1 h1 := by
  unfold impl_meetRanges.f apart
  rw [mx_if, mn_if]
  simp only [impl_meetRanges.j0, Bool.false_eq_true, if_false]
  generalize (if l > l1 then l else l1) = a
  generalize (if h < h1 then h else h1) = b
  by_cases c3 : a > b
  · exact ⟨_, by rw [if_pos (by simpa using c3)], by simpa using c3⟩
  · exact ⟨_, by rw [if_neg (by simpa using c3)], by simpa using c3⟩
theorem impl_j1 (k : Nat) (lo hi : Int) : impl_rangeOf.j1 (k + 2) false lo hi = some (span lo hi) := by
  unfold span
  simp only [impl_rangeOf.j1, impl_rangeOf.j2]
  by_cases c1 : lo < 0 <;> by_cases c2 : hi > 65535 <;> simp [c1, c2]
theorem impl_two (k : Nat) (op : Int) (e : Bool) (l h : Int) (e1 : Bool) (l1 h1 : Int) : impl_rangeOf.f (k + 3) op e l h e1 l1 h1 = some (two op e l h e1 l1 h1) := by
  unfold impl_rangeOf.f two
  rw [show impl_rangeOf.j0 (k + 3) = impl_rangeOf.j0 ((k + 2) + 1) from rfl]
  simp only [impl_rangeOf.j0]
  cases e
  · cases e1
    · simp only [Bool.false_eq_true, if_false, or_self, impl_j1]
      by_cases c3 : op = 3
      · simp [c3]
      · by_cases c4 : op = 4
        · simp [c4]
        · by_cases c5 : op = 5
          · simp [c5]
          · by_cases c6 : op = 6
            · simp only [c6]
              by_cases d1 : h < l1 <;> by_cases d2 : l ≥ h1 <;> simp [d1, d2, span]
            · simp only [c3, c4, c5, c6, if_false]
              obtain ⟨r, hr, ha⟩ := impl_meet (k + 1) l h l1 h1
              rw [show k + 2 = k + 1 + 1 from rfl, hr]
              by_cases c7 : op = 7
              · simp only [c7, if_true, Option.bind_some, ha]
                cases apart l h l1 h1 <;> simp [span]
              · simp [c7, span]
    · simp
  · simp

theorem ranges_same (k : Nat) (e : Bool) (l h : Int) (e1 : Bool) (l1 h1 : Int) : ∃ r, spec_AddRanges.f (k + 4) e l h e1 l1 h1 = some r ∧ impl_AddRanges.f (k + 4) e l h e1 l1 h1 = some r := by
  unfold spec_AddRanges.f impl_AddRanges.f
  obtain ⟨a, ha, ha'⟩ := good_range_same e l h
  obtain ⟨b, hb, hb'⟩ := good_range_same e1 l1 h1
  rw [ha, ha', hb, hb']
  rw [show k + 4 = (k + 3) + 1 from rfl]
  simp only [Option.bind_some, spec_AddRanges.j0, impl_AddRanges.j0]
  rw [show k + 3 = (k + 1) + 2 from rfl, spec_two, show (k + 1) + 2 = k + 3 from rfl, impl_two]
  cases a <;> cases b <;> simp
theorem FnExactAddRanges : laws_FnExactAddRanges.Pure := by
  intro e l h e1 l1 h1 _ _ _ _
  obtain ⟨k, hk⟩ : ∃ k, k = 1 := ⟨_, rfl⟩
  refine ⟨k + 4, ?_⟩
  obtain ⟨r, h1, h2⟩ := ranges_same k e l h e1 l1 h1
  unfold laws_FnExactAddRanges.f laws_toRange.f
  simp only [Option.bind_some]
  rw [h1, h2]
  simp only [Option.bind_some, eq_range_self, laws_FnExactAddRanges.j0]
  simp

end Go.Proofs.Ytfndikfaibbjoaa.Pure
