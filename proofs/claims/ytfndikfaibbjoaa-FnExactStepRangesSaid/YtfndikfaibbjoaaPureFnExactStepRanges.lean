/- The program's StepRanges answers as the reference's for all code and ranges; it changes no argument, and its answer shares no memory. Conditions: none beyond those of the given statement. -/
import Derived.Test.YtfndikfaibbjoaaKitS
import Derived.Test.YtfndikfaibbjoaaQFnExactStepRangesx11
import Derived.Test.YtfndikfaibbjoaaQFnExactStepRangesx2
import Derived.Test.YtfndikfaibbjoaaQFnExactStepRangesx6
import Derived.Test.YtfndikfaibbjoaaQFnExactStepRangesx7
import Derived.Test.YtfndikfaibbjoaaQFnExactStepRangesx1
import Derived.Test.YtfndikfaibbjoaaQFnExactStepRangesx5
import Derived.Test.YtfndikfaibbjoaaQFnExactStepRangesx10
import Derived.Test.YtfndikfaibbjoaaQFnExactStepRangesx8
import Derived.Test.YtfndikfaibbjoaaQFnExactStepRangesx9
import Derived.Test.YtfndikfaibbjoaaQFnExactStepRangesx3
import Derived.Test.YtfndikfaibbjoaaQFnExactStepRangesx4
namespace Go.Proofs.Ytfndikfaibbjoaa.Pure
open Go.RowKit Go.Proofs.Ytfndikfaibbjoaa.QFnExactStepRanges Go.Proofs.YtfndikfaibbjoaaW.PrintWords Go.Proofs.YtfndikfaibbjoaaW.PrintLast Go.Proofs.YtfndikfaibbjoaaW.PrintMore Go.Proofs.Ytfndikfaibbjoaa.Kit
set_option linter.unusedSimpArgs false
set_option linter.unusedVariables false

theorem good_range_same (e : Bool) (l h : Int) : ∃ r, spec_GoodRange.f e l h = some r ∧ impl_isSpan.f e l h = some r := by
  unfold spec_GoodRange.f impl_isSpan.f spec_l1Word.f impl_isWord.f
  cases e
  · simp only [spec_l1In.f, impl_in.f, Bool.false_eq_true, if_false]
    by_cases c1 : 0 ≤ l <;> by_cases c2 : l ≤ 65535 <;> by_cases c3 : l ≤ h <;> by_cases c4 : h ≤ 65535 <;> by_cases c5 : 0 ≤ h <;>
      first | (exfalso; omega) | simp [c1, c2, c3, c4, c5]
  · by_cases c : l = 0 <;> simp [c]
theorem eq_range_self (e : Bool) (l h : Int) : laws_eqRange.f e l h e l h = some true := by
  unfold laws_eqRange.f
  simp

def span (lo hi : Int) : Bool × Int × Int := if lo < 0 ∨ hi > 65535 then (false, 0, 65535) else (false, lo, hi)
/-- Both bounds of two spans in one another: nothing between them. -/
def apart (l h l1 h1 : Int) : Bool := decide ((if l > l1 then l else l1) > (if h < h1 then h else h1))
def two (op : Int) (e : Bool) (l h : Int) (e1 : Bool) (l1 h1 : Int) : Bool × Int × Int :=
  if e = true ∨ e1 = true then (true, 0, 0) else if op = 3 then span (wrap64 (l + l1)) (wrap64 (h + h1)) else if op = 4 then span (wrap64 (l - h1)) (wrap64 (h - l1)) else if op = 5 then span (wrap64 (l * l1)) (wrap64 (h * h1))
  else if op = 6 then (if h < l1 then (false, 1, 1) else if l ≥ h1 then (false, 0, 0) else (false, 0, 1)) else if op = 7 then cond (apart l h l1 h1) (false, 0, 0) (false, 0, 1) else (false, 0, 1)
theorem spec_span (lo hi : Int) : spec_l6Span.f lo hi = some (span lo hi) := by
  unfold spec_l6Span.f span
  by_cases c1 : lo < 0 <;> by_cases c2 : hi > 65535 <;> simp [c1, c2]
theorem spec_meet (k : Nat) (l h l1 h1 : Int) : ∃ r, spec_l6Meet.f (k + 1) false l h false l1 h1 = some r ∧ r.1 = apart l h l1 h1 := by
  unfold spec_l6Meet.f spec_l6Most.f spec_l6Least.f apart
  simp only [spec_l6Meet.j0]
  by_cases c1 : l > l1 <;> by_cases c2 : h < h1 <;> simp only [c1, c2, if_true, if_false, Option.bind_some, Bool.false_eq_true]
  · by_cases c3 : l > h
    · exact ⟨_, by rw [if_pos (by simpa using c3)], by simpa using c3⟩
    · exact ⟨_, by rw [if_neg (by simpa using c3)], by simpa using c3⟩
  · by_cases c3 : l > h1
    · exact ⟨_, by rw [if_pos (by simpa using c3)], by simpa using c3⟩
    · exact ⟨_, by rw [if_neg (by simpa using c3)], by simpa using c3⟩
  · by_cases c3 : l1 > h
    · exact ⟨_, by rw [if_pos (by simpa using c3)], by simpa using c3⟩
    · exact ⟨_, by rw [if_neg (by simpa using c3)], by simpa using c3⟩
  · by_cases c3 : l1 > h1
    · exact ⟨_, by rw [if_pos (by simpa using c3)], by simpa using c3⟩
    · exact ⟨_, by rw [if_neg (by simpa using c3)], by simpa using c3⟩
theorem spec_two (k : Nat) (op : Int) (e : Bool) (l h : Int) (e1 : Bool) (l1 h1 : Int) : spec_l6Two.f (k + 2) op e l h e1 l1 h1 = some (two op e l h e1 l1 h1) := by
  unfold spec_l6Two.f two
  simp only [spec_l6Two.j0]
  cases e
  · cases e1
    · simp only [Bool.false_eq_true, if_false, or_self, spec_span, Option.bind_some]
      by_cases c3 : op = 3
      · simp [c3]
      · by_cases c4 : op = 4
        · simp [c4]
        · by_cases c5 : op = 5
          · simp [c5]
          · by_cases c6 : op = 6
            · simp only [c6]
              by_cases d1 : h < l1 <;> by_cases d2 : l ≥ h1 <;> simp [d1, d2]
            · simp only [c3, c4, c5, c6, if_false]
              obtain ⟨r, hr, ha⟩ := spec_meet k l h l1 h1
              by_cases c7 : op = 7
              · simp only [c7, if_true, hr, Option.bind_some, ha]
                cases apart l h l1 h1 <;> rfl
              · simp [c7]
    · simp
  · simp
theorem mx_if (a b : Int) : mx a b = (if a > b then a else b) := by
  unfold mx
  split <;> split <;> omega
theorem mn_if (a b : Int) : mn a b = (if a < b then a else b) := by
  unfold mn
  split <;> split <;> omega
theorem impl_meet (k : Nat) (l h l1 h1 : Int) : ∃ r, impl_meetRanges.f (k + 1) false l h false l1 h1 = some r ∧ r.1 = apart l h l1 h1 := by
  unfold impl_meetRanges.f apart
  rw [mx_if, mn_if]
  simp only [impl_meetRanges.j0, Bool.false_eq_true, if_false]
  generalize (if l > l1 then l else l1) = a
  generalize (if h < h1 then h else h1) = b
  by_cases c3 : a > b
  · exact ⟨_, by rw [if_pos (by simpa using c3)], by simpa using c3⟩
  · exact ⟨_, by rw [if_neg (by simpa using c3)], by simpa using c3⟩
theorem impl_j1 (k : Nat) (lo hi : Int) : impl_rangeOf.j1 (k + 2) false lo hi = some (span lo hi) := by
  unfold span
  simp only [impl_rangeOf.j1]
  by_cases c1 : lo < 0 <;> by_cases c2 : hi > 65535 <;> simp [c1, c2]
theorem impl_two (k : Nat) (op : Int) (e : Bool) (l h : Int) (e1 : Bool) (l1 h1 : Int) : impl_rangeOf.f (k + 3) op e l h e1 l1 h1 = some (two op e l h e1 l1 h1) := by
  unfold impl_rangeOf.f two
  rw [show impl_rangeOf.j0 (k + 3) = impl_rangeOf.j0 ((k + 2) + 1) from rfl]
  simp only [impl_rangeOf.j0]
  cases e
  · cases e1
    · simp only [Bool.false_eq_true, if_false, or_self, impl_j1]
      by_cases c3 : op = 3
      · simp [c3]
      · by_cases c4 : op = 4
        · simp [c4]
        · by_cases c5 : op = 5
          · simp [c5]
          · by_cases c6 : op = 6
            · simp only [c6]
              by_cases d1 : h < l1 <;> by_cases d2 : l ≥ h1 <;> simp [d1, d2, span]
            · simp only [c3, c4, c5, c6, if_false]
              obtain ⟨r, hr, ha⟩ := impl_meet (k + 1) l h l1 h1
              rw [show k + 2 = k + 1 + 1 from rfl, hr]
              by_cases c7 : op = 7
              · simp only [c7, if_true, Option.bind_some, ha]
                cases apart l h l1 h1 <;> simp [span]
              · simp [c7, span]
    · simp
  · simp

/-- A range of the law's own type, as the program's. -/
def cR (x : S23) : S24 := ⟨x.f0, x.f1, x.f2⟩
theorem rdR23 (p : List S23) (a : S23) (r : List S23) : rd_T23 (p ++ a :: r) (p.length : Int) = a := by
  unfold rd_T23
  simp
theorem rdR24 (p : List S24) (a : S24) (r : List S24) : rd_T24 (p ++ a :: r) (p.length : Int) = a := by
  unfold rd_T24
  simp
theorem sz_ranges (l : List S23) (s : Int) (hs : 0 ≤ s) (hs2 : s ≤ 1048576) (hl : l.length ≤ 140737488355328) : ∃ z, laws_szRangeS.f l s = some z ∧ (0 ≤ z → (l.length : Int) ≤ s) := by
  unfold laws_szRangeS.f
  rw [w64 (by omega) (by omega)]
  by_cases e : s - (l.length : Int) < 0
  · rw [if_pos e]
    exact ⟨-1, rfl, by omega⟩
  · rw [if_neg e]
    exact ⟨_, rfl, by omega⟩
theorem to_ranges_l0 : ∀ (r p : List S23) (y : List S24) (k : Nat), (p ++ r).length ≤ 140737488355328 → r.length < k → y.length = (p ++ r).length → y.take p.length = p.map cR →
    laws_toRangeS.l0 k (p ++ r) y (p.length : Int) = some ((p ++ r).map cR)
  | [], p, y, k, hl, hk, hy, ht => by
    obtain ⟨k, rfl⟩ := rounds hk
    simp only [laws_toRangeS.l0]
    rw [if_neg (by simp)]
    rw [List.take_of_length_le (by simp at hy; omega)] at ht
    simp [ht]
  | a :: r, p, y, k, hl, hk, hy, ht => by
    obtain ⟨k, rfl⟩ := rounds hk
    have hn := len_app_cons p a r
    simp only [List.length_cons] at hk
    simp only [laws_toRangeS.l0, laws_toRange.f]
    rw [if_pos (by omega), if_pos (by omega), rdR23]
    simp only [Option.bind_some]
    rw [if_pos (by omega), w64_succ (n := (p ++ a :: r).length) (by omega) (by omega) (by omega), ← len_snoc p a, app_cons, show ((p.length : Int)).toNat = p.length from by omega]
    refine to_ranges_l0 r (p ++ [a]) _ k (by rw [← app_cons]; omega) (by omega) (by rw [← app_cons, List.length_set]; exact hy) ?_
    rw [List.length_append, List.length_singleton, take_set_succ _ _ _ (by omega), ht]
    simp [cR]
theorem to_ranges (l : List S23) (hl : l.length ≤ 1048576) (k : Nat) (hk : 1048580 < k) : laws_toRangeS.f k l = some (l.map cR) := by
  unfold laws_toRangeS.f
  rw [if_pos (by omega), if_pos (by omega)]
  exact to_ranges_l0 l [] _ k (by simp; omega) (by omega) (by simp) (by simp)
theorem eq_ranges_l0 : ∀ (r p : List S24) (k : Nat), (p ++ r).length ≤ 140737488355328 → r.length < k → laws_eqRangeS.l0 k (p ++ r) (p ++ r) (p.length : Int) = some true
  | [], p, k, hl, hk => by
    obtain ⟨k, rfl⟩ := rounds hk
    simp only [laws_eqRangeS.l0]
    rw [if_neg (by simp)]
  | a :: r, p, k, hl, hk => by
    obtain ⟨k, rfl⟩ := rounds hk
    have hn := len_app_cons p a r
    simp only [List.length_cons] at hk
    simp only [laws_eqRangeS.l0]
    rw [if_pos (by omega), if_pos (by omega), if_pos (by omega), eq_range_self]
    simp only [Option.bind_some, if_true]
    rw [w64_succ (n := (p ++ a :: r).length) (by omega) (by omega) (by omega), ← len_snoc p a, app_cons]
    exact eq_ranges_l0 r (p ++ [a]) k (by rw [← app_cons]; omega) (by omega)
theorem eq_ranges (l : List S24) (hl : l.length ≤ 1048576) (k : Nat) (hk : 1048580 < k) : laws_eqRangeS.f k l l = some true := by
  unfold laws_eqRangeS.f
  rw [if_pos rfl]
  exact eq_ranges_l0 l [] k (by simp; omega) (by omega)
/-- Marks in ranges, rising. -/
def markedR (x : Int) : Nat → List S24
  | 0 => []
  | n + 1 => ⟨Int.tmod x 3 == 0, x + 1, x + 2⟩ :: markedR (x + 3) n
theorem markedR_len : ∀ (n : Nat) (x : Int), (markedR x n).length = n
  | 0, _ => rfl
  | n + 1, x => by simp only [markedR, List.length_cons, markedR_len n (x + 3)]
theorem mark_ranges_l0 : ∀ (r p : List S24) (k : Nat) (x : Int), (p ++ r).length ≤ 140737488355327 → r.length < k → 0 ≤ x → x + 3 * r.length ≤ 1000000000000000 →
    laws_markRangeS.l0 k (p ++ r) x (p.length : Int) = some (x + 3 * r.length, p ++ markedR x r.length)
  | [], p, k, x, hl, hk, h0, h1 => by
    obtain ⟨k, rfl⟩ := rounds hk
    simp only [laws_markRangeS.l0]
    rw [if_neg (by simp)]
    simp [markedR]
  | a :: r, p, k, x, hl, hk, h0, h1 => by
    obtain ⟨k, rfl⟩ := rounds hk
    have hn := len_app_cons p a r
    simp only [List.length_cons] at h1 hk
    simp only [laws_markRangeS.l0]
    rw [if_pos (by omega), if_pos (by omega), show ((p.length : Int)).toNat = p.length from by omega]
    simp only [Option.bind_some, rdR24, set_app]
    rw [w64 (x := x + 1) (by omega) (by omega), w64 (x := x + 1 + 1) (by omega) (by omega), w64 (x := x + 1 + 1 + 1) (by omega) (by omega), w64_succ (n := (p ++ a :: r).length) (by omega) (by omega) (by omega)]
    rw [← len_snoc p (⟨Int.tmod x 3 == 0, x + 1, x + 1 + 1⟩ : S24), app_cons, show x + 1 + 1 + 1 = x + 3 from by omega]
    rw [mark_ranges_l0 r (p ++ [_]) k (x + 3) (by rw [← app_cons, len_app_cons]; omega) (by omega) (by omega) (by omega)]
    simp only [List.length_cons, markedR, List.append_assoc, List.singleton_append, Option.some.injEq, Prod.mk.injEq]
    exact ⟨by omega, by rw [show x + 1 + 1 = x + 2 from by omega]⟩
theorem mark_ranges (l : List S24) (x : Int) (k : Nat) (hl : l.length ≤ 1000000000) (hk : l.length < k) (h0 : 0 ≤ x) (h1 : x ≤ 10000000000) : laws_markRangeS.f k l x = some (x + 3 * (l.length : Int), markedR x l.length) := by
  unfold laws_markRangeS.f
  exact mark_ranges_l0 l [] k x (by simp; omega) hk h0 (by omega)
theorem held_ranges_l0 : ∀ (n : Nat) (p : List S24) (k : Nat) (x : Int), p.length + n ≤ 140737488355327 → n < k → 0 ≤ x → x + 3 * n ≤ 1000000000000000 →
    laws_heldRangeS.l0 k (p ++ markedR x n) x (p.length : Int) = some (x + 3 * n)
  | 0, p, k, x, hl, hk, h0, h1 => by
    obtain ⟨k, rfl⟩ := rounds hk
    rw [show markedR x 0 = [] from rfl]
    simp only [laws_heldRangeS.l0]
    rw [if_neg (by simp)]
    simp
  | n + 1, p, k, x, hl, hk, h0, h1 => by
    obtain ⟨k, rfl⟩ := rounds hk
    have hn := len_app_cons p (⟨Int.tmod x 3 == 0, x + 1, x + 2⟩ : S24) (markedR (x + 3) n)
    rw [markedR_len] at hn
    rw [show markedR x (n + 1) = ⟨Int.tmod x 3 == 0, x + 1, x + 2⟩ :: markedR (x + 3) n from rfl]
    simp only [laws_heldRangeS.l0, rdR24]
    rw [if_pos (by omega), if_pos (by omega), w64 (x := x + 1) (by omega) (by omega), w64 (x := x + 1 + 1) (by omega) (by omega), w64 (x := x + 1 + 1 + 1) (by omega) (by omega), w64_succ (n := (p ++ (⟨Int.tmod x 3 == 0, x + 1, x + 2⟩ : S24) :: markedR (x + 3) n).length) (by omega) (by omega) (by omega)]
    rw [if_neg (by simp), if_pos rfl, if_pos (by omega), ← len_snoc p (⟨Int.tmod x 3 == 0, x + 1, x + 2⟩ : S24), app_cons, show x + 1 + 1 + 1 = x + 3 from by omega]
    rw [held_ranges_l0 n (p ++ [_]) k (x + 3) (by simp; omega) (by omega) (by omega) (by omega)]
    simp only [Option.some.injEq]
    omega
theorem held_ranges (n : Nat) (x : Int) (k : Nat) (hl : n ≤ 1000000000) (hk : n < k) (h0 : 0 ≤ x) (h1 : x ≤ 10000000000) : laws_heldRangeS.f k (markedR x n) x = some (x + 3 * (n : Int)) := by
  unfold laws_heldRangeS.f
  exact held_ranges_l0 n [] k x (by simp; omega) hk h0 (by omega)
def okR (x : S24) : Bool := (spec_GoodRange.f x.f0 x.f1 x.f2).getD false
theorem spec_okR (x : S24) : spec_GoodRange.f x.f0 x.f1 x.f2 = some (okR x) := by
  obtain ⟨r, h, _⟩ := good_range_same x.f0 x.f1 x.f2
  unfold okR
  rw [h]
  rfl
theorem impl_okR (x : S24) : impl_isSpan.f x.f0 x.f1 x.f2 = some (okR x) := by
  obtain ⟨r, h, h2⟩ := good_range_same x.f0 x.f1 x.f2
  unfold okR
  rw [h, h2]
  rfl
theorem ranges_l0 (L : List S24) : ∀ (r p : List S24) (k : Nat), (p ++ r).length ≤ 140737488355328 → r.length < k →
    spec_l6Ranges.l0 k L (p ++ r) ((p ++ r).length : Int) (p.length : Int) = some (r.all okR && ((L.length : Int) == 8))
  | [], p, k, hl, hk => by
    obtain ⟨k, rfl⟩ := rounds hk
    simp only [spec_l6Ranges.l0]
    rw [if_neg (by simp)]
    simp
  | a :: r, p, k, hl, hk => by
    obtain ⟨k, rfl⟩ := rounds hk
    have hn := len_app_cons p a r
    simp only [List.length_cons] at hk
    simp only [spec_l6Ranges.l0, rdR24, spec_okR, Option.bind_some]
    rw [if_pos (by omega), if_pos (by omega), if_pos (by omega)]
    have hgo := ranges_l0 L r (p ++ [a]) k (by rw [← app_cons]; omega) (by omega)
    rw [w64_succ (n := (p ++ a :: r).length) (by omega) (by omega) (by omega)]
    rw [← app_cons, len_snoc] at hgo
    rw [hgo, List.all_cons]
    cases okR a <;> simp
theorem ranges_f (l : List S24) (hl : l.length ≤ 140737488355328) (k : Nat) (hk : l.length < k) : spec_l6Ranges.f k l = some (l.all okR && ((l.length : Int) == 8)) := by
  unfold spec_l6Ranges.f
  exact ranges_l0 l l [] k hl hk
theorem bad_ranges_l0 : ∀ (r p : List S24) (k : Nat), (p ++ r).length ≤ 140737488355328 → r.length < k →
    ∃ n, slices_IndexFunc__impl_areSpans_1.l0 k (p ++ r) ((p ++ r).length : Int) (p.length : Int) = some n ∧ (0 ≤ n ↔ r.all okR = false)
  | [], p, k, hl, hk => by
    obtain ⟨k, rfl⟩ := rounds hk
    refine ⟨-1, ?_, by simp⟩
    simp only [slices_IndexFunc__impl_areSpans_1.l0]
    rw [if_neg (by simp)]
  | a :: r, p, k, hl, hk => by
    obtain ⟨k, rfl⟩ := rounds hk
    have hn := len_app_cons p a r
    simp only [List.length_cons] at hk
    simp only [slices_IndexFunc__impl_areSpans_1.l0, impl_areSpans_1.f, rdR24, impl_okR, Option.bind_some]
    rw [if_pos (by omega), if_pos (by omega), if_pos (by omega), w64_succ (n := (p ++ a :: r).length) (by omega) (by omega) (by omega), ← len_snoc p a, app_cons]
    obtain ⟨n, h1, h2⟩ := bad_ranges_l0 r (p ++ [a]) k (by rw [← app_cons]; omega) (by omega)
    cases h : okR a
    · exact ⟨(p.length : Int), by simp, by simp [h]⟩
    · refine ⟨n, ?_, by rw [h2]; simp [h]⟩
      rw [if_neg (by simp)]
      exact h1
theorem spans_f (l : List S24) (hl : l.length ≤ 140737488355328) (k : Nat) (hk : l.length < k) : impl_areSpans.f k l = some (l.all okR && ((l.length : Int) == 8)) := by
  unfold impl_areSpans.f slices_ContainsFunc__impl_areSpans_1.f slices_IndexFunc__impl_areSpans_1.f
  obtain ⟨n, h1, h2⟩ := bad_ranges_l0 l [] k hl hk
  have h1' : slices_IndexFunc__impl_areSpans_1.l0 k l (l.length : Int) 0 = some n := h1
  rw [h1']
  simp only [Option.bind_some, ge_iff_le]
  by_cases e : (l.length : Int) = 8
  · rw [if_pos e, show ((l.length : Int) == 8) = true from by simpa using e, Bool.and_true]
    cases h : l.all okR
    · rw [show decide (0 ≤ n) = true from by simpa [h] using h2]; rfl
    · rw [show decide (0 ≤ n) = false from by simpa [h] using h2]; rfl
  · rw [if_neg e, show ((l.length : Int) == 8) = false from by simpa using e, Bool.and_false]

/-- A step of the law's own type, as the program's. -/
def cI (x : S96) : S94 := ⟨x.f0, x.f1, x.f2, x.f3, x.f4⟩
theorem rdI96 (p : List S96) (a : S96) (r : List S96) : rd_T96 (p ++ a :: r) (p.length : Int) = a := by
  unfold rd_T96
  simp
theorem rdI94 (p : List S94) (a : S94) (r : List S94) : rd_T94 (p ++ a :: r) (p.length : Int) = a := by
  unfold rd_T94
  simp
theorem sz_instrs (l : List S96) (hl : l.length ≤ 140737488355328) : ∃ z, laws_szInstrS.f l 1048576 = some z ∧ (0 ≤ z → (l.length : Int) ≤ 1048576 ∧ z ≤ 1048576) := by
  unfold laws_szInstrS.f
  rw [w64 (by omega) (by omega)]
  by_cases e : (1048576 : Int) - (l.length : Int) < 0
  · rw [if_pos e]
    exact ⟨-1, rfl, by omega⟩
  · rw [if_neg e]
    exact ⟨_, rfl, by omega⟩
theorem to_instrs_l0 : ∀ (r p : List S96) (y : List S94) (k : Nat), (p ++ r).length ≤ 140737488355328 → r.length < k → y.length = (p ++ r).length → y.take p.length = p.map cI →
    laws_toInstrS.l0 k (p ++ r) y (p.length : Int) = some ((p ++ r).map cI)
  | [], p, y, k, hl, hk, hy, ht => by
    obtain ⟨k, rfl⟩ := rounds hk
    simp only [laws_toInstrS.l0]
    rw [if_neg (by simp)]
    rw [List.take_of_length_le (by simp at hy; omega)] at ht
    simp [ht]
  | a :: r, p, y, k, hl, hk, hy, ht => by
    obtain ⟨k, rfl⟩ := rounds hk
    have hn := len_app_cons p a r
    simp only [List.length_cons] at hk
    simp only [laws_toInstrS.l0, laws_toInstr.f]
    rw [if_pos (by omega), if_pos (by omega), rdI96]
    simp only [Option.bind_some]
    rw [if_pos (by omega), w64_succ (n := (p ++ a :: r).length) (by omega) (by omega) (by omega), ← len_snoc p a, app_cons, show ((p.length : Int)).toNat = p.length from by omega]
    refine to_instrs_l0 r (p ++ [a]) _ k (by rw [← app_cons]; omega) (by omega) (by rw [← app_cons, List.length_set]; exact hy) ?_
    rw [List.length_append, List.length_singleton, take_set_succ _ _ _ (by omega), ht]
    simp [cI]
theorem to_instrs (l : List S96) (hl : l.length ≤ 1048576) (k : Nat) (hk : 1048580 < k) : laws_toInstrS.f k l = some (l.map cI) := by
  unfold laws_toInstrS.f
  rw [if_pos (by omega), if_pos (by omega)]
  exact to_instrs_l0 l [] _ k (by simp; omega) (by omega) (by simp) (by simp)
theorem eq_instrs_l0 : ∀ (r p : List S94) (k : Nat), (p ++ r).length ≤ 140737488355328 → r.length < k → laws_eqInstrS.l0 k (p ++ r) (p ++ r) (p.length : Int) = some true
  | [], p, k, hl, hk => by
    obtain ⟨k, rfl⟩ := rounds hk
    simp only [laws_eqInstrS.l0]
    rw [if_neg (by simp)]
  | a :: r, p, k, hl, hk => by
    obtain ⟨k, rfl⟩ := rounds hk
    have hn := len_app_cons p a r
    simp only [List.length_cons] at hk
    simp only [laws_eqInstrS.l0, laws_eqInstr.f]
    rw [if_pos (by omega), if_pos (by omega), if_pos (by omega)]
    simp only [Option.bind_some, if_true]
    rw [w64_succ (n := (p ++ a :: r).length) (by omega) (by omega) (by omega), ← len_snoc p a, app_cons]
    exact eq_instrs_l0 r (p ++ [a]) k (by rw [← app_cons]; omega) (by omega)
theorem eq_instrs (l : List S94) (hl : l.length ≤ 1048576) (k : Nat) (hk : 1048580 < k) : laws_eqInstrS.f k l l = some true := by
  unfold laws_eqInstrS.f
  rw [if_pos rfl]
  exact eq_instrs_l0 l [] k (by simp; omega) (by omega)
theorem mark_instrs_l0 : ∀ (r p : List S94) (k : Nat) (x : Int), (p ++ r).length ≤ 140737488355327 → r.length < k → 0 ≤ x → x + 5 * r.length ≤ 1000000000000000 →
    ∃ y, laws_markInstrS.l0 k (p ++ r) x (p.length : Int) = some (x + 5 * r.length, y)
  | [], p, k, x, hl, hk, h0, h1 => by
    obtain ⟨k, rfl⟩ := rounds hk
    refine ⟨p ++ [], ?_⟩
    simp only [laws_markInstrS.l0]
    rw [if_neg (by simp)]
    simp
  | a :: r, p, k, x, hl, hk, h0, h1 => by
    obtain ⟨k, rfl⟩ := rounds hk
    have hn := len_app_cons p a r
    simp only [List.length_cons] at h1 hk
    obtain ⟨y, hy⟩ := mark_instrs_l0 r (p ++ [⟨x, x + 1, x + 1 + 1, x + 1 + 1 + 1, x + 1 + 1 + 1 + 1⟩]) k (x + 1 + 1 + 1 + 1 + 1) (by rw [← app_cons, len_app_cons]; omega) (by omega) (by omega) (by omega)
    refine ⟨y, ?_⟩
    simp only [laws_markInstrS.l0]
    rw [if_pos (by omega), if_pos (by omega), show ((p.length : Int)).toNat = p.length from by omega]
    simp only [Option.bind_some, rdI94, set_app]
    rw [w64 (x := x + 1) (by omega) (by omega), w64 (x := x + 1 + 1) (by omega) (by omega), w64 (x := x + 1 + 1 + 1) (by omega) (by omega), w64 (x := x + 1 + 1 + 1 + 1) (by omega) (by omega), w64 (x := x + 1 + 1 + 1 + 1 + 1) (by omega) (by omega), w64_succ (n := (p ++ a :: r).length) (by omega) (by omega) (by omega)]
    rw [← app_cons, len_snoc] at hy
    rw [hy]
    simp only [List.length_cons, Option.some.injEq, Prod.mk.injEq, and_true]
    omega
theorem mark_instrs (l : List S94) (k : Nat) (hl : l.length ≤ 1048576) (hk : l.length < k) : ∃ y, laws_markInstrS.f k l 1 = some (1 + 5 * (l.length : Int), y) := by
  unfold laws_markInstrS.f
  exact mark_instrs_l0 l [] k 1 (by simp; omega) hk (by omega) (by omega)

def nm (x : Int) : Bool := decide (0 ≤ x) && decide (x ≤ 7)
def okWd (x : Int) : Bool := decide (0 ≤ x) && decide (x ≤ 65535)
theorem s_name (x : Int) : spec_l3Name.f x = some (nm x) := by
  unfold spec_l3Name.f spec_l1In.f nm
  by_cases h : x ≥ 0 <;> simp [h]
theorem i_name (x : Int) : impl_isName.f x = some (nm x) := by
  unfold impl_isName.f impl_in.f nm
  by_cases h : x ≥ 0 <;> simp [h]
theorem s_word (x : Int) : spec_l1Word.f x = some (okWd x) := by
  unfold spec_l1Word.f spec_l1In.f okWd
  by_cases h : x ≥ 0 <;> simp [h]
theorem i_word (x : Int) : impl_isWord.f x = some (okWd x) := by
  unfold impl_isWord.f impl_in.f okWd
  by_cases h : x ≥ 0 <;> simp [h]
theorem s_two (x : Int) : spec_l3Two.f x = some (decide (3 ≤ x) && decide (x ≤ 7)) := by
  unfold spec_l3Two.f spec_l1In.f
  by_cases h : x ≥ 3 <;> simp [h]
def okI (x : S94) : Bool :=
  if x.f0 = 1 then nm x.f1 && ((x.f2 == 0) && ((x.f3 == 0) && okWd x.f4))
  else if x.f0 = 2 then nm x.f1 && (nm x.f2 && ((x.f3 == 0) && (x.f4 == 0)))
  else if x.f0 = 8 then (x.f1 == 0) && (nm x.f2 && ((x.f3 == 0) && (x.f4 == 0)))
  else (decide (3 ≤ x.f0) && decide (x.f0 ≤ 7)) && (nm x.f1 && (nm x.f2 && (nm x.f3 && (x.f4 == 0))))
theorem spec_okI (x : S94) : spec_l3Good.f x.f0 x.f1 x.f2 x.f3 x.f4 = some (okI x) := by
  unfold spec_l3Good.f okI
  simp only [s_name, s_word, s_two, Option.bind_some]
  by_cases h1 : x.f0 = 1
  · rw [if_pos h1, if_pos h1]
    by_cases ha : x.f2 = 0 <;> by_cases hb : x.f3 = 0 <;> cases nm x.f1 <;> simp [ha, hb]
  · rw [if_neg h1, if_neg h1]
    by_cases h2 : x.f0 = 2
    · rw [if_pos h2, if_pos h2]
      by_cases hb : x.f3 = 0 <;> cases nm x.f1 <;> cases nm x.f2 <;> simp [hb]
    · rw [if_neg h2, if_neg h2]
      by_cases h8 : x.f0 = 8
      · rw [if_pos h8, if_pos h8]
        by_cases hd : x.f1 = 0 <;> by_cases hb : x.f3 = 0 <;> cases nm x.f2 <;> simp [hb, hd]
      · rw [if_neg h8, if_neg h8]
        cases (decide (3 ≤ x.f0) && decide (x.f0 ≤ 7)) <;> cases nm x.f1 <;> cases nm x.f2 <;> cases nm x.f3 <;> simp
theorem nm_ne {x : Int} (h : nm x = false) : ¬ x = 0 := by
  rintro rfl
  exact absurd h (by decide)
theorem wd_ne {x : Int} (h : okWd x = false) : ¬ x = 0 := by
  rintro rfl
  exact absurd h (by decide)
theorem impl_okI (x : S94) (k : Nat) : impl_isInstr.f (k + 2) x.f0 x.f1 x.f2 x.f3 x.f4 = some (okI x) := by
  unfold impl_isInstr.f okI
  rw [show k + 2 = (k + 1) + 1 from rfl]
  simp only [i_name, i_word, Option.bind_some, impl_isInstr.j0, impl_isInstr.j1]
  cases hd : nm x.f1
  · have := nm_ne hd
    by_cases h1 : x.f0 = 1 <;> by_cases h2 : x.f0 = 2 <;> by_cases h8 : x.f0 = 8 <;> simp [h1, h2, h8, this]
  · cases ha : nm x.f2
    · have := nm_ne ha
      by_cases h1 : x.f0 = 1 <;> by_cases h2 : x.f0 = 2 <;> by_cases h8 : x.f0 = 8 <;> simp [h1, h2, h8, this]
    · cases hb : nm x.f3
      · have := nm_ne hb
        by_cases h1 : x.f0 = 1 <;> by_cases h2 : x.f0 = 2 <;> by_cases h8 : x.f0 = 8 <;> simp [h1, h2, h8, this]
      · cases hn : okWd x.f4
        · have := wd_ne hn
          by_cases h1 : x.f0 = 1 <;> by_cases h2 : x.f0 = 2 <;> by_cases h8 : x.f0 = 8 <;> simp [h1, h2, h8, this]
        · by_cases h1 : x.f0 = 1
          · by_cases e2 : x.f2 = 0 <;> by_cases e3 : x.f3 = 0 <;> simp [h1, e2, e3]
          · by_cases h2 : x.f0 = 2
            · by_cases e3 : x.f3 = 0 <;> simp [h2, e3]
            · by_cases h8 : x.f0 = 8
              · by_cases e1 : x.f1 = 0 <;> by_cases e3 : x.f3 = 0 <;> simp [h8, e1, e3]
              · by_cases h3 : x.f0 = 3
                · simp [h3]
                · by_cases h4 : x.f0 = 4
                  · simp [h4]
                  · by_cases h5 : x.f0 = 5
                    · simp [h5]
                    · by_cases h6 : x.f0 = 6
                      · simp [h6]
                      · by_cases h7 : x.f0 = 7
                        · simp [h7]
                        · have hno : (decide (3 ≤ x.f0) && decide (x.f0 ≤ 7)) = false := by simp; omega
                          simp [h1, h2, h3, h4, h5, h6, h7, h8, hno]

theorem code_l0 (L : List S94) : ∀ (r p : List S94) (k : Nat), (p ++ r).length ≤ 140737488355328 → r.length < k →
    spec_GoodCode.l0 k L (p ++ r) ((p ++ r).length : Int) (p.length : Int) = some (r.all okI && decide ((L.length : Int) ≤ 30))
  | [], p, k, hl, hk => by
    obtain ⟨k, rfl⟩ := rounds hk
    simp only [spec_GoodCode.l0]
    rw [if_neg (by simp)]
    simp
  | a :: r, p, k, hl, hk => by
    obtain ⟨k, rfl⟩ := rounds hk
    have hn := len_app_cons p a r
    simp only [List.length_cons] at hk
    simp only [spec_GoodCode.l0, rdI94, spec_okI, Option.bind_some]
    rw [if_pos (by omega), if_pos (by omega), if_pos (by omega)]
    have hgo := code_l0 L r (p ++ [a]) k (by rw [← app_cons]; omega) (by omega)
    rw [w64_succ (n := (p ++ a :: r).length) (by omega) (by omega) (by omega)]
    rw [← app_cons, len_snoc] at hgo
    rw [hgo, List.all_cons]
    cases okI a <;> simp
theorem code_f (l : List S94) (hl : l.length ≤ 140737488355328) (k : Nat) (hk : l.length < k) : spec_GoodCode.f k l = some (l.all okI && decide ((l.length : Int) ≤ 30)) := by
  unfold spec_GoodCode.f
  exact code_l0 l l [] k hl hk
theorem bad_code_l0 : ∀ (r p : List S94) (k : Nat), (p ++ r).length ≤ 140737488355328 → r.length + 3 < k →
    ∃ n, slices_IndexFunc__impl_isCode_1.l0 k (p ++ r) ((p ++ r).length : Int) (p.length : Int) = some n ∧ (0 ≤ n ↔ r.all okI = false)
  | [], p, k, hl, hk => by
    obtain ⟨k, rfl⟩ := rounds hk
    refine ⟨-1, ?_, by simp⟩
    simp only [slices_IndexFunc__impl_isCode_1.l0]
    rw [if_neg (by simp)]
  | a :: r, p, k, hl, hk => by
    obtain ⟨k, rfl⟩ : ∃ m, k = m + 1 := ⟨k - 1, by omega⟩
    have hn := len_app_cons p a r
    simp only [List.length_cons] at hk
    obtain ⟨n, h1, h2⟩ := bad_code_l0 r (p ++ [a]) k (by rw [← app_cons]; omega) (by omega)
    have hi : impl_isInstr.f k a.f0 a.f1 a.f2 a.f3 a.f4 = some (okI a) := by
      obtain ⟨m, rfl⟩ : ∃ m, k = m + 2 := ⟨k - 2, by omega⟩
      exact impl_okI a m
    simp only [slices_IndexFunc__impl_isCode_1.l0, impl_isCode_1.f, rdI94, hi, Option.bind_some]
    rw [if_pos (by omega), if_pos (by omega), if_pos (by omega), w64_succ (n := (p ++ a :: r).length) (by omega) (by omega) (by omega), ← len_snoc p a, app_cons]
    cases h : okI a
    · exact ⟨(p.length : Int), by simp, by simp [h]⟩
    · refine ⟨n, ?_, by rw [h2]; simp [h]⟩
      rw [if_neg (by simp)]
      exact h1
theorem is_code_f (l : List S94) (hl : l.length ≤ 140737488355328) (k : Nat) (hk : l.length + 3 < k) : impl_isCode.f k l = some (l.all okI && decide ((l.length : Int) ≤ 30)) := by
  unfold impl_isCode.f slices_ContainsFunc__impl_isCode_1.f slices_IndexFunc__impl_isCode_1.f
  obtain ⟨n, h1, h2⟩ := bad_code_l0 l [] k hl hk
  have h1' : slices_IndexFunc__impl_isCode_1.l0 k l (l.length : Int) 0 = some n := h1
  rw [h1']
  simp only [Option.bind_some, ge_iff_le]
  by_cases e : (l.length : Int) ≤ 30
  · rw [if_pos e, show decide ((l.length : Int) ≤ 30) = true from by simpa using e, Bool.and_true]
    cases h : l.all okI
    · rw [show decide (0 ≤ n) = true from by simpa [h] using h2]; rfl
    · rw [show decide (0 ≤ n) = false from by simpa [h] using h2]; rfl
  · rw [if_neg e, show decide ((l.length : Int) ≤ 30) = false from by simpa using e, Bool.and_false]

def mkR (t : Bool × Int × Int) : S24 := ⟨t.1, t.2.1, t.2.2⟩
def stepI (x : S94) (R : List S24) : List S24 :=
  if x.f0 = 1 then R.set x.f1.toNat ⟨false, x.f4, x.f4⟩
  else if x.f0 = 2 then R.set x.f1.toNat (rd_T24 R x.f2)
  else if x.f0 = 8 then R
  else R.set x.f1.toNat (mkR (two x.f0 (rd_T24 R x.f2).f0 (rd_T24 R x.f2).f1 (rd_T24 R x.f2).f2 (rd_T24 R x.f3).f0 (rd_T24 R x.f3).f1 (rd_T24 R x.f3).f2))
theorem stepI_len (x : S94) (R : List S24) : (stepI x R).length = R.length := by
  unfold stepI
  split
  · simp
  · split
    · simp
    · split <;> simp
def stepAll : List S94 → List S24 → List S24
  | [], R => R
  | x :: r, R => stepAll r (stepI x R)
theorem stepAll_len : ∀ (l : List S94) (R : List S24), (stepAll l R).length = R.length
  | [], R => rfl
  | x :: r, R => by simp only [stepAll, stepAll_len r, stepI_len]
theorem okI_cases (x : S94) (h : okI x = true) : (x.f0 = 1 ∧ 0 ≤ x.f1 ∧ x.f1 ≤ 7) ∨ (x.f0 = 2 ∧ 0 ≤ x.f1 ∧ x.f1 ≤ 7 ∧ 0 ≤ x.f2 ∧ x.f2 ≤ 7) ∨ x.f0 = 8 ∨ (3 ≤ x.f0 ∧ x.f0 ≤ 7 ∧ 0 ≤ x.f1 ∧ x.f1 ≤ 7 ∧ 0 ≤ x.f2 ∧ x.f2 ≤ 7 ∧ 0 ≤ x.f3 ∧ x.f3 ≤ 7) := by
  unfold okI nm at h
  by_cases h1 : x.f0 = 1
  · simp [h1] at h; omega
  · by_cases h2 : x.f0 = 2
    · simp [h2] at h; omega
    · by_cases h8 : x.f0 = 8
      · omega
      · simp [h1, h2, h8] at h; omega
theorem spec_step_l0 : ∀ (r p : List S94) (R : List S24) (k : Nat), (p ++ r).length ≤ 140737488355328 → r.length + 3 < k → R.length = 8 → r.all okI = true →
    spec_l6Step.l0 k R (p ++ r) ((p ++ r).length : Int) (p.length : Int) = some (stepAll r R)
  | [], p, R, k, hl, hk, hR, ho => by
    obtain ⟨k, rfl⟩ : ∃ m, k = m + 1 := ⟨k - 1, by omega⟩
    simp only [spec_l6Step.l0]
    rw [if_neg (by simp)]
    rfl
  | a :: r, p, R, k, hl, hk, hR, ho => by
    obtain ⟨k, rfl⟩ : ∃ m, k = m + 1 := ⟨k - 1, by omega⟩
    have hn := len_app_cons p a r
    simp only [List.length_cons] at hk
    rw [List.all_cons, Bool.and_eq_true] at ho
    obtain ⟨ha, hr⟩ := ho
    have hc := okI_cases a ha
    have hgo := spec_step_l0 r (p ++ [a]) (stepI a R) k (by rw [← app_cons]; omega) (by omega) (by rw [stepI_len]; exact hR) hr
    rw [← app_cons, len_snoc] at hgo
    have htwo : ∀ e l h e1 l1 h1, spec_l6Two.f k a.f0 e l h e1 l1 h1 = some (two a.f0 e l h e1 l1 h1) := by
      obtain ⟨m, rfl⟩ : ∃ m, k = m + 2 := ⟨k - 2, by omega⟩
      exact fun e l h e1 l1 h1 => spec_two m a.f0 e l h e1 l1 h1
    simp only [spec_l6Step.l0, rdI94, s_two, htwo, Option.bind_some]
    rw [if_pos (by omega), if_pos (by omega), if_pos (by omega), w64_succ (n := (p ++ a :: r).length) (by omega) (by omega) (by omega)]
    simp only [stepAll]
    rw [← hgo]
    unfold stepI
    rcases hc with ⟨h1, h⟩ | ⟨h1, h⟩ | h1 | ⟨h1, h2, h⟩
    · rw [if_pos h1, if_pos (by omega), if_pos (by omega), if_pos h1]
    · rw [if_neg (by omega), if_pos h1, if_pos (by omega), if_pos (by omega), if_pos (by omega), if_pos (by omega), if_neg (by omega), if_pos h1]
    · rw [if_neg (by omega), if_neg (by omega), if_neg (by simp; omega), if_neg (by omega), if_neg (by omega), if_pos h1]
    · rw [if_neg (by omega), if_neg (by omega), if_pos (by simp; omega), if_pos (by omega), if_pos (by omega), if_pos (by omega), if_pos (by omega), if_pos (by omega), if_pos (by omega), if_neg (by omega), if_neg (by omega), if_neg (by omega)]
      rfl
theorem impl_step_l0 : ∀ (r p : List S94) (R : List S24) (k : Nat), (p ++ r).length ≤ 140737488355328 → r.length + 4 < k → R.length = 8 → r.all okI = true →
    impl_stepRanges.l0 k R (p ++ r) ((p ++ r).length : Int) (p.length : Int) = some (stepAll r R)
  | [], p, R, k, hl, hk, hR, ho => by
    obtain ⟨k, rfl⟩ : ∃ m, k = m + 1 := ⟨k - 1, by omega⟩
    simp only [impl_stepRanges.l0]
    rw [if_neg (by simp)]
    rfl
  | a :: r, p, R, k, hl, hk, hR, ho => by
    obtain ⟨k, rfl⟩ : ∃ m, k = m + 1 := ⟨k - 1, by omega⟩
    have hn := len_app_cons p a r
    simp only [List.length_cons] at hk
    rw [List.all_cons, Bool.and_eq_true] at ho
    obtain ⟨ha, hr⟩ := ho
    have hc := okI_cases a ha
    have hgo := impl_step_l0 r (p ++ [a]) (stepI a R) k (by rw [← app_cons]; omega) (by omega) (by rw [stepI_len]; exact hR) hr
    rw [← app_cons, len_snoc] at hgo
    have htwo : ∀ e l h e1 l1 h1, impl_rangeOf.f k a.f0 e l h e1 l1 h1 = some (two a.f0 e l h e1 l1 h1) := by
      obtain ⟨m, rfl⟩ : ∃ m, k = m + 3 := ⟨k - 3, by omega⟩
      exact fun e l h e1 l1 h1 => impl_two m a.f0 e l h e1 l1 h1
    simp only [impl_stepRanges.l0, rdI94, htwo, Option.bind_some]
    rw [if_pos (by omega), if_pos (by omega), if_pos (by omega), w64_succ (n := (p ++ a :: r).length) (by omega) (by omega) (by omega)]
    simp only [stepAll]
    rw [← hgo]
    unfold stepI
    rcases hc with ⟨h1, h⟩ | ⟨h1, h⟩ | h1 | ⟨h1, h2, h⟩
    · rw [if_neg (by omega), if_pos h1, if_pos (by omega), if_pos (by omega), if_pos h1]
    · rw [if_neg (by omega), if_neg (by omega), if_pos h1, if_pos (by omega), if_pos (by omega), if_pos (by omega), if_pos (by omega), if_neg (by omega), if_pos h1]
    · rw [if_pos h1, if_neg (by omega), if_neg (by omega), if_pos h1]
    · rw [if_neg (by omega), if_neg (by omega), if_neg (by omega), if_pos (by omega), if_pos (by omega), if_pos (by omega), if_pos (by omega), if_pos (by omega), if_pos (by omega), if_neg (by omega), if_neg (by omega), if_neg (by omega)]
      rfl
def stepR (l : List S94) (R : List S24) : List S24 × Bool := cond ((l.all okI && decide ((l.length : Int) ≤ 30)) && (R.all okR && ((R.length : Int) == 8))) (stepAll l R, true) ([], false)
theorem stepR_len (l : List S94) (R : List S24) : (stepR l R).1.length ≤ R.length := by
  unfold stepR
  cases ((l.all okI && decide ((l.length : Int) ≤ 30)) && (R.all okR && ((R.length : Int) == 8))) <;> simp [stepAll_len]
theorem spec_step (l : List S94) (R : List S24) (hl : l.length ≤ 1048576) (hR : R.length ≤ 1048576) (k : Nat) (hk : 1048590 < k) : spec_StepRanges.f k l R = some (stepR l R) := by
  unfold spec_StepRanges.f stepR
  rw [code_f l (by omega) k (by omega), ranges_f R (by omega) k (by omega)]
  obtain ⟨k, rfl⟩ : ∃ m, k = m + 1 := ⟨k - 1, by omega⟩
  simp only [Option.bind_some]
  cases h : (l.all okI && decide ((l.length : Int) ≤ 30))
  · rfl
  · rw [if_pos rfl, Bool.true_and]
    cases h2 : (R.all okR && ((R.length : Int) == 8))
    · rfl
    · rw [Bool.and_eq_true, beq_iff_eq] at h2
      rw [Bool.and_eq_true] at h
      have hlt : ([] : List S24).length + R.length < 5864062014805 := by simp; omega
      unfold spec_l6Step.f
      simp only [Option.bind_some, List.nil_append, Bool.not_true, Bool.false_eq_true, if_false, if_true, if_pos hlt, Bool.and_self]
      have hs := spec_step_l0 l [] R (k + 1) (by simp; omega) (by omega) (by omega) h.1
      simp only [List.nil_append, List.length_nil] at hs
      have hs' : spec_l6Step.l0 (k + 1) R l (l.length : Int) 0 = some (stepAll l R) := hs
      rw [hs']
      rfl
theorem impl_step (l : List S94) (R : List S24) (hl : l.length ≤ 1048576) (hR : R.length ≤ 1048576) (k : Nat) (hk : 1048590 < k) : impl_StepRanges.f k l R = some (stepR l R) := by
  unfold impl_StepRanges.f stepR
  rw [is_code_f l (by omega) k (by omega), spans_f R (by omega) k (by omega)]
  obtain ⟨k, rfl⟩ : ∃ m, k = m + 1 := ⟨k - 1, by omega⟩
  simp only [Option.bind_some]
  cases h : (l.all okI && decide ((l.length : Int) ≤ 30))
  · rfl
  · rw [if_pos rfl, Bool.true_and]
    cases h2 : (R.all okR && ((R.length : Int) == 8))
    · rfl
    · rw [Bool.and_eq_true, beq_iff_eq] at h2
      rw [Bool.and_eq_true] at h
      have hlt : ([] : List S24).length + R.length < 5864062014805 := by simp; omega
      unfold impl_stepRanges.f
      simp only [Option.bind_some, List.nil_append, Bool.not_true, Bool.false_eq_true, if_false, if_true, if_pos hlt, Bool.and_self]
      have hs := impl_step_l0 l [] R (k + 1) (by simp; omega) (by omega) (by omega) h.1
      simp only [List.nil_append, List.length_nil] at hs
      have hs' : impl_stepRanges.l0 (k + 1) R l (l.length : Int) 0 = some (stepAll l R) := hs
      rw [hs']
      rfl
theorem FnExactStepRanges : laws_FnExactStepRanges.Pure := by
  intro l R ⟨hl0, hl1, _⟩ ⟨hR0, hR1, _⟩
  obtain ⟨k, hk⟩ : ∃ k, k = 3000000 := ⟨_, rfl⟩
  refine ⟨k, ?_⟩
  unfold laws_FnExactStepRanges.f
  obtain ⟨z, hz1, hz2⟩ := sz_instrs l (by omega)
  rw [hz1]
  simp only [Option.bind_some]
  by_cases e2 : z < 0
  · rw [if_pos e2]
  · rw [if_neg e2]
    obtain ⟨hlen, hz⟩ := hz2 (by omega)
    obtain ⟨z2, hz3, hz4⟩ := sz_ranges R z (by omega) (by omega) (by omega)
    rw [hz3]
    simp only [Option.bind_some]
    by_cases e3 : z2 < 0
    · rw [if_pos e3]
    · rw [if_neg e3]
      have hRl := hz4 (by omega)
      have hto := fun k hk => to_instrs l (by omega) k hk
      have hcp := fun k hk => to_ranges R (by omega) k hk
      have hM : (l.map cI).length ≤ 1048576 := by simp; omega
      have hC : (R.map cR).length ≤ 1048576 := by simp; omega
      have hsp := spec_step (l.map cI) (R.map cR) hM hC
      have him := impl_step (l.map cI) (R.map cR) hM hC
      have hX : (stepR (l.map cI) (R.map cR)).1.length ≤ (R.map cR).length := stepR_len _ _
      obtain ⟨X, b, hXb⟩ : ∃ X b, stepR (l.map cI) (R.map cR) = (X, b) := ⟨_, _, rfl⟩
      rw [hXb] at hsp him hX
      simp only at hX
      rw [hto k (by omega), hcp k (by omega)]
      simp only [Option.bind_some]
      rw [hsp k (by omega), him k (by omega)]
      simp only [Option.bind_some]
      rw [eq_ranges X (by omega) k (by omega)]
      simp only [Option.bind_some]
      rw [if_pos trivial]
      obtain ⟨k1, rfl⟩ : ∃ k1, k = k1 + 1 := ⟨k - 1, by omega⟩
      simp only [laws_FnExactStepRanges.j0]
      rw [if_neg (by simp), hto k1 (by omega)]
      simp only [Option.bind_some]
      rw [eq_instrs _ hM k1 (by omega)]
      simp only [Option.bind_some]
      rw [if_pos trivial, hcp k1 (by omega)]
      simp only [Option.bind_some]
      rw [eq_ranges _ hC k1 (by omega)]
      simp only [Option.bind_some]
      obtain ⟨y, hy⟩ := mark_instrs (l.map cI) k1 hM (by omega)
      rw [if_pos trivial, hy]
      simp only [Option.bind_some]
      rw [mark_ranges (R.map cR) _ k1 (by omega) (by omega) (by omega) (by omega)]
      simp only [Option.bind_some]
      rw [if_neg (by omega), eq_ranges X (by omega) k1 (by omega)]
      simp only [Option.bind_some]
      rw [if_pos trivial]
      obtain ⟨k2, rfl⟩ : ∃ k2, k1 = k2 + 1 := ⟨k1 - 1, by omega⟩
      simp only [laws_FnExactStepRanges.j1]
      rw [if_neg (by simp), mark_ranges X 1 k2 (by omega) (by omega) (by omega) (by omega)]
      simp only [Option.bind_some]
      rw [held_ranges X.length 1 k2 (by omega) (by omega) (by omega) (by omega)]
      simp only [Option.bind_some]
      rw [if_neg (by omega), if_pos trivial, hto k2 (by omega), hcp k2 (by omega)]
      simp only [Option.bind_some]
      rw [him k2 (by omega)]
      simp only [Option.bind_some]
      rw [eq_ranges X (by omega) k2 (by omega)]
      simp only [Option.bind_some]
      rw [if_pos trivial]
      rw [if_neg (by simp)]
      rw [if_neg (by omega), if_pos trivial]

end Go.Proofs.Ytfndikfaibbjoaa.Pure
