/- Ranges of words: what both sides reckon of them. No condition. -/
import Derived.Test.YtfndikfaibbjoaaLWords
namespace Go.Proofs.Ytfndikfaibbjoaa.Am
open Go Go.RowKit
set_option linter.unusedSimpArgs false
set_option linter.unusedVariables false

structure Rng where
  em : Bool
  lo : Int
  hi : Int
  deriving DecidableEq
def Rng.enc (r : Rng) : List AV := [.bool r.em, .int .i64 r.lo, .int .i64 r.hi]
abbrev tR : Ty := ⟨.struct [(0, 4), (1, 3), (2, 3)], 3, 24, [.bool false, .int .i64 0, .int .i64 0], true⟩
abbrev tB : Ty := ⟨.bool, 1, 1, [.bool false], false⟩
def GoodR (r : Rng) : Prop := (r.em = true ∧ r.lo = 0 ∧ r.hi = 0) ∨ (r.em = false ∧ 0 ≤ r.lo ∧ r.lo ≤ r.hi ∧ r.hi ≤ 65535)
instance (r : Rng) : Decidable (GoodR r) := inferInstanceAs (Decidable (_ ∨ _))
def joinR (a b : Rng) : Rng := if a.em then b else if b.em then a else ⟨false, min a.lo b.lo, max a.hi b.hi⟩
def meetR (a b : Rng) : Rng := if a.em = true ∨ b.em = true ∨ min a.hi b.hi < max a.lo b.lo then ⟨true, 0, 0⟩ else ⟨false, max a.lo b.lo, min a.hi b.hi⟩
def widenR (a b : Rng) : Rng := if a.em then b else if b.em then a else ⟨false, if b.lo < a.lo then 0 else a.lo, if a.hi < b.hi then 65535 else a.hi⟩
def spanR (lo hi : Int) : Rng := if lo < 0 ∨ 65535 < hi then ⟨false, 0, 65535⟩ else ⟨false, lo, hi⟩
def twoR (op : Int) (a b : Rng) : Rng :=
  if a.em = true ∨ b.em = true then ⟨true, 0, 0⟩
  else if op = 3 then spanR (a.lo + b.lo) (a.hi + b.hi)
  else if op = 4 then spanR (a.lo - b.hi) (a.hi - b.lo)
  else if op = 5 then spanR (a.lo * b.lo) (a.hi * b.hi)
  else if op = 6 then (if a.hi < b.lo then ⟨false, 1, 1⟩ else if b.hi ≤ a.lo then ⟨false, 0, 0⟩ else ⟨false, 0, 1⟩)
  else if op = 7 then (if (meetR a b).em = true then ⟨false, 0, 0⟩ else ⟨false, 0, 1⟩)
  else ⟨false, 0, 1⟩
theorem goodRange_ok (a : Rng) (H : Hp) : T Try.prog 44 [.agg a.enc] H (fun r K => r = .bool (decide (GoodR a)) ∧ Fr H K) := by
  refine T.by tabOk Try.func44 (by kernel_rfl) rfl _ (by simp [Try.f44]) H _ ?_
  obtain ⟨em, lo, hi⟩ := a
  have f0 := Fr.app H [some ⟨3, true, [.bool em, .int .i64 lo, .int .i64 hi]⟩]
  cases em with
  | true =>
    by_cases h1 : lo = 0 <;> by_cases h2 : hi = 0 <;> simp [Try.f44, tab, Rng.enc, loadB, GoodR, h1, h2] <;> exact Fr.app _ _
  | false =>
    simp [Try.f44, tab, Rng.enc, loadB]
    refine (l1Word_ok lo _).mono fun r K ⟨e1, e2⟩ => ?_
    subst e1 e2
    by_cases h1 : 0 ≤ lo ∧ lo ≤ 65535
    case neg =>
      simp [h1, tab, GoodR]
      exact ⟨by omega, f0⟩
    simp [h1, tab, loadB]
    refine (l1In_ok hi lo 65535 _).mono fun r K ⟨e1, e2⟩ => ?_
    subst e1 e2
    simp [tab, GoodR]
    exact ⟨by omega, f0⟩
theorem isSpan_ok (a : Rng) (H : Hp) : T Try.prog 55 [.agg a.enc] H (fun r K => r = .bool (decide (GoodR a)) ∧ Fr H K) := by
  refine T.by tabOk Try.func55 (by kernel_rfl) rfl _ (by simp [Try.f55]) H _ ?_
  obtain ⟨em, lo, hi⟩ := a
  have f0 := Fr.app H [some ⟨3, true, [.bool em, .int .i64 lo, .int .i64 hi]⟩]
  cases em with
  | true =>
    by_cases h1 : lo = 0 <;> by_cases h2 : hi = 0 <;> simp [Try.f55, tab, Rng.enc, loadB, GoodR, h1, h2] <;> exact Fr.app _ _
  | false =>
    simp [Try.f55, tab, Rng.enc, loadB]
    refine (isWord_ok lo _).mono fun r K ⟨e1, e2⟩ => ?_
    subst e1 e2
    by_cases h1 : 0 ≤ lo ∧ lo ≤ 65535
    case neg =>
      simp [h1, tab, GoodR]
      exact ⟨by omega, f0⟩
    simp [h1, tab, loadB]
    refine (isWord_ok hi _).mono fun r K ⟨e1, e2⟩ => ?_
    subst e1 e2
    by_cases h2 : 0 ≤ hi ∧ hi ≤ 65535
    case neg =>
      simp [h2, tab, GoodR]
      exact ⟨by omega, f0⟩
    simp [h2, tab, GoodR, loadB]
    exact ⟨by omega, f0⟩
theorem least_ok (a b : Int) (H : Hp) : T Try.prog 109 [.int .i64 a, .int .i64 b] H (fun r K => r = .int .i64 (min a b) ∧ K = H) := by
  refine T.by tabOk Try.func109 (by kernel_rfl) rfl _ (by simp [Try.f109]) H _ ?_
  by_cases h : a < b <;> simp [Try.f109, tab, h] <;> omega
theorem spec_most_ok (a b : Int) (H : Hp) : T Try.prog 111 [.int .i64 a, .int .i64 b] H (fun r K => r = .int .i64 (max a b) ∧ K = H) := by
  refine T.by tabOk Try.func111 (by kernel_rfl) rfl _ (by simp [Try.f111]) H _ ?_
  by_cases h : b < a <;> simp [Try.f111, tab, h] <;> omega
theorem two_new (H : Hp) (x y : Option Blk) : Fr H (H ++ [x, y]) := Fr.app H _
set_option maxRecDepth 100000 in
theorem l6Join_ok (a b : Rng) (H : Hp) : T Try.prog 78 [.agg a.enc, .agg b.enc] H (fun r K => r = .agg (joinR a b).enc ∧ Fr H K) := by
  refine T.by tabOk Try.func78 (by kernel_rfl) rfl _ (by simp [Try.f78]) H _ ?_
  obtain ⟨em, lo, hi⟩ := a
  obtain ⟨em', lo', hi'⟩ := b
  cases em with
  | true => simp [Try.f78, tab, Rng.enc, loadB, storeB, over, joinR]; exact Fr.app _ _
  | false =>
    cases em' with
    | true => simp [Try.f78, tab, Rng.enc, loadB, storeB, over, joinR]; exact Fr.app _ _
    | false =>
      simp [Try.f78, tab, Rng.enc, loadB, storeB, over, joinR]
      refine W_draw mixed (.look 0 (.look 1 (.look 2 (.look 3 (.look 5 (.look 6 (.look 7 (.look 8 (.act 4 [6, 8] (.act 9 [] (.look 10 (.act 11 [] .done .stop)) .stop) .stop))))))))) (by kernel_rfl) ?_
      simp [tab, loadB]
      refine (least_ok lo lo' _).mono fun r K ⟨e1, e2⟩ => ?_
      subst e1 e2
      simp [tab, loadB]
      refine (spec_most_ok hi hi' _).mono fun r K ⟨e1, e2⟩ => ?_
      subst e1 e2
      simp [tab, loadB, storeB, over, fillA]
      exact Fr.app _ _
theorem joinRanges_ok (a b : Rng) (H : Hp) : T Try.prog 77 [.agg a.enc, .agg b.enc] H (fun r K => r = .agg (joinR a b).enc ∧ Fr H K) := by
  refine T.by tabOk Try.func77 (by kernel_rfl) rfl _ (by simp [Try.f77]) H _ ?_
  obtain ⟨em, lo, hi⟩ := a
  obtain ⟨em', lo', hi'⟩ := b
  cases em with
  | true => simp [Try.f77, tab, Rng.enc, loadB, storeB, over, joinR]; exact Fr.app _ _
  | false =>
    cases em' with
    | true => simp [Try.f77, tab, Rng.enc, loadB, storeB, over, joinR]; exact Fr.app _ _
    | false =>
      simp [Try.f77, tab, Rng.enc, loadB, storeB, over, joinR, fillA]
      refine ⟨⟨?_, ?_⟩, Fr.app _ _⟩
      · split <;> omega
      · split <;> omega
set_option maxRecDepth 100000 in
theorem l6Meet_ok (a b : Rng) (H : Hp) : T Try.prog 80 [.agg a.enc, .agg b.enc] H (fun r K => r = .agg (meetR a b).enc ∧ Fr H K) := by
  refine T.by tabOk Try.func80 (by kernel_rfl) rfl _ (by simp [Try.f80]) H _ ?_
  obtain ⟨em, lo, hi⟩ := a
  obtain ⟨em', lo', hi'⟩ := b
  simp [Try.f80, tab, Rng.enc]
  refine W_cut (fun ts K => K = H ++ [some ⟨3, true, [.bool em, .int .i64 lo, .int .i64 hi]⟩, some ⟨3, true, [.bool em', .int .i64 lo', .int .i64 hi']⟩, some ⟨3, true, [.bool false, .int .i64 0, .int .i64 0]⟩, some ⟨3, true, [.bool false, .int .i64 (max lo lo'), .int .i64 (min hi hi')]⟩] ∧ ts 2 = .ptr H.length 0 ∧ ts 3 = .ptr (H.length + 1) 0 ∧ ts 4 = .ptr (H.length + 2) 0 ∧ ts 5 = .ptr (H.length + 3) 0) ?_ ?_
  · refine W_draw mixed (.look 0 (.look 1 (.look 2 (.look 3 (.look 5 (.look 6 (.look 7 (.look 8 (.act 4 [6, 8] (.act 9 [] (.look 10 (.act 11 [] (.act 12 [] .done .stop) .stop)) (.act 11 [6, 8] (.act 9 [] (.look 10 (.act 12 [] .done .stop)) .stop) .stop)) (.act 11 [1, 3, 6, 8] (.act 4 [6, 8] (.act 9 [] (.look 10 (.act 12 [] .done .stop)) .stop) .stop) .stop)))))))))) (by kernel_rfl) ?_
    simp [tab, loadB]
    refine ⟨?_, ?_⟩
    · refine (spec_most_ok lo lo' _).mono fun r K ⟨e1, e2⟩ => ?_
      subst e1 e2
      simp [tab, loadB]
      refine ⟨?_, ?_⟩
      · refine (least_ok hi hi' _).mono fun r K ⟨e1, e2⟩ => ?_
        subst e1 e2
        simp [tab, loadB, storeB, over, fillA]
      · refine (least_ok hi hi' _).mono fun r K ⟨e1, e2⟩ => ?_
        subst e1 e2
        simp [tab, loadB, storeB, over, fillA]
    · refine (spec_most_ok lo lo' _).mono fun r K ⟨e1, e2⟩ => ?_
      subst e1 e2
      simp [tab, loadB]
      refine (least_ok hi hi' _).mono fun r K ⟨e1, e2⟩ => ?_
      subst e1 e2
      simp [tab, loadB, storeB, over, fillA]
  rintro ts K ⟨rfl, t2, t3, t4, t5⟩
  cases em <;> cases em' <;> by_cases hc : min hi hi' < max lo lo' <;> simp [t2, t3, t4, t5, tab, loadB, storeB, over, fillA, hc, meetR] <;> exact Fr.app _ _
theorem meetRanges_ok (a b : Rng) (H : Hp) : T Try.prog 79 [.agg a.enc, .agg b.enc] H (fun r K => r = .agg (meetR a b).enc ∧ Fr H K) := by
  refine T.by tabOk Try.func79 (by kernel_rfl) rfl _ (by simp [Try.f79]) H _ ?_
  obtain ⟨em, lo, hi⟩ := a
  obtain ⟨em', lo', hi'⟩ := b
  have hmx : (if lo < lo' then lo' else lo) = max lo lo' := by split <;> omega
  have hmn : (if hi' < hi then hi' else hi) = min hi hi' := by split <;> omega
  cases em <;> cases em' <;> by_cases hc : min hi hi' < max lo lo' <;> simp [Try.f79, tab, Rng.enc, loadB, storeB, over, fillA, hmx, hmn, hc, meetR] <;> exact Fr.app _ _
theorem l6Widen_ok (a b : Rng) (H : Hp) : T Try.prog 54 [.agg a.enc, .agg b.enc] H (fun r K => r = .agg (widenR a b).enc ∧ Fr H K) := by
  refine T.by tabOk Try.func54 (by kernel_rfl) rfl _ (by simp [Try.f54]) H _ ?_
  obtain ⟨em, lo, hi⟩ := a
  obtain ⟨em', lo', hi'⟩ := b
  cases em <;> cases em' <;> by_cases h1 : lo' < lo <;> by_cases h2 : hi < hi' <;> simp [Try.f54, tab, Rng.enc, loadB, storeB, over, h1, h2, widenR] <;> exact Fr.app _ _
theorem widen_ok (a b : Rng) (H : Hp) : T Try.prog 56 [.agg a.enc, .agg b.enc] H (fun r K => r = .agg (widenR a b).enc ∧ Fr H K) := by
  refine T.by tabOk Try.func56 (by kernel_rfl) rfl _ (by simp [Try.f56]) H _ ?_
  obtain ⟨em, lo, hi⟩ := a
  obtain ⟨em', lo', hi'⟩ := b
  cases em <;> cases em' <;> by_cases h1 : lo' < lo <;> by_cases h2 : hi < hi' <;> simp [Try.f56, tab, Rng.enc, loadB, storeB, over, h1, h2, widenR] <;> exact Fr.app _ _
theorem l6Span_ok (lo hi : Int) (H : Hp) : T Try.prog 103 [.int .i64 lo, .int .i64 hi] H (fun r K => r = .agg (spanR lo hi).enc ∧ Fr H K) := by
  refine T.by tabOk Try.func103 (by kernel_rfl) rfl _ (by simp [Try.f103]) H _ ?_
  by_cases h1 : lo < 0 <;> by_cases h2 : 65535 < hi <;> simp [Try.f103, tab, Rng.enc, loadB, storeB, over, fillA, h1, h2, spanR] <;> exact Fr.app _ _
theorem good_range {a : Rng} (h : GoodR a) : 0 ≤ a.lo ∧ a.lo ≤ 65535 ∧ 0 ≤ a.hi ∧ a.hi ≤ 65535 := by
  unfold GoodR at h
  omega
theorem mul_range {x y : Int} (hx : 0 ≤ x ∧ x ≤ 65535) (hy : 0 ≤ y ∧ y ≤ 65535) : 0 ≤ x * y ∧ x * y ≤ 4294836225 := by
  refine ⟨Int.mul_nonneg hx.1 hy.1, ?_⟩
  have : x * y ≤ 65535 * 65535 := Int.mul_le_mul hx.2 hy.2 hy.1 (by omega)
  omega
/-- A range is put into its place. -/
theorem put_range {K : Hp} {c : Nat} {l : List AV} (h : K[c]? = some (some ⟨3, true, l⟩)) (hl : l.length = 3) (x : Rng) : ∃ K', storeA tR K (.ptr c 0) (.agg x.enc) = some K' ∧ loadA tR K' (.ptr c 0) = some (.agg x.enc) ∧ Keeps (fun b => b = c) K K' ∧ K'[c]? = some (some ⟨3, true, x.enc⟩) := by
  obtain ⟨K', s1, s2, s3, s4⟩ := store_at h rfl (ty := tR) (o := 0) (v := .agg x.enc) rfl rfl (by simp [hl])
  have e : over l 0 x.enc = x.enc := by
    unfold over
    simp [Rng.enc, hl]
  simp only [AV.cells, e] at s2
  exact ⟨K', s1, by simp [loadA, s2, Rng.enc], s3, s2⟩
set_option maxRecDepth 100000 in
theorem l6Two_ok (op : Int) (a b : Rng) (H : Hp) (ha : GoodR a) (hb : GoodR b) : T Try.prog 69 [.int .i64 op, .agg a.enc, .agg b.enc] H (fun r K => r = .agg (twoR op a b).enc ∧ Fr H K) := by
  refine T.by tabOk Try.func69 (by kernel_rfl) rfl _ (by simp [Try.f69]) H _ ?_
  have h1 := good_range ha
  have h2 := good_range hb
  have m1 := mul_range ⟨h1.1, h1.2.1⟩ ⟨h2.1, h2.2.1⟩
  have m2 := mul_range ⟨h1.2.2.1, h1.2.2.2⟩ ⟨h2.2.2.1, h2.2.2.2⟩
  have w1 := wrap64 (x := a.lo + b.lo) (by omega) (by omega)
  have w2 := wrap64 (x := a.hi + b.hi) (by omega) (by omega)
  have w3 := wrap64 (x := a.lo - b.hi) (by omega) (by omega)
  have w4 := wrap64 (x := a.hi - b.lo) (by omega) (by omega)
  have w5 := wrap64 (x := a.lo * b.lo) (by omega) (by omega)
  have w6 := wrap64 (x := a.hi * b.hi) (by omega) (by omega)
  clear ha hb h1 h2 m1 m2
  by_cases hem : a.em = true ∨ b.em = true
  · obtain ⟨em, lo, hi⟩ := a
    obtain ⟨em', lo', hi'⟩ := b
    cases em <;> cases em' <;> simp at hem <;> simp [Try.f69, tab, Rng.enc, loadB, storeB, over, fillA, twoR] <;> exact Fr.app _ _
  obtain ⟨em, lo, hi⟩ := a
  obtain ⟨em', lo', hi'⟩ := b
  simp only [not_or, Bool.not_eq_true] at hem
  obtain ⟨rfl, rfl⟩ := hem
  simp only at w1 w2 w3 w4 w5 w6
  have f3 : Fr H (H ++ [some ⟨3, true, [.bool false, .int .i64 lo, .int .i64 hi]⟩, some ⟨3, true, [.bool false, .int .i64 lo', .int .i64 hi']⟩, some ⟨3, true, [.bool false, .int .i64 0, .int .i64 0]⟩]) := Fr.app _ _
  by_cases o3 : op = 3
  · subst o3
    simp [Try.f69, tab, Rng.enc, loadB, w1, w2]
    refine (l6Span_ok _ _ _).mono fun r K ⟨e1, e2⟩ => ?_
    subst e1
    obtain ⟨K', s1, s2, s3, _⟩ := put_range (c := H.length + 2) (e2.2 _ _ (by simp : _ = some (some (⟨3, true, [.bool false, .int .i64 0, .int .i64 0]⟩ : Blk))) id) rfl (spanR (lo + lo') (hi + hi'))
    simp only [Rng.enc] at s1 s2
    simp [tab, s1, s2, twoR, Rng.enc]
    exact Fr.then (f3.trans e2) s3 fun b hb => by omega
  by_cases o4 : op = 4
  · subst o4
    simp [Try.f69, tab, Rng.enc, loadB, w3, w4]
    refine (l6Span_ok _ _ _).mono fun r K ⟨e1, e2⟩ => ?_
    subst e1
    obtain ⟨K', s1, s2, s3, _⟩ := put_range (c := H.length + 2) (e2.2 _ _ (by simp : _ = some (some (⟨3, true, [.bool false, .int .i64 0, .int .i64 0]⟩ : Blk))) id) rfl (spanR (lo - hi') (hi - lo'))
    simp only [Rng.enc] at s1 s2
    simp [tab, s1, s2, twoR, Rng.enc]
    exact Fr.then (f3.trans e2) s3 fun b hb => by omega
  by_cases o5 : op = 5
  · subst o5
    simp [Try.f69, tab, Rng.enc, loadB, w5, w6]
    refine (l6Span_ok _ _ _).mono fun r K ⟨e1, e2⟩ => ?_
    subst e1
    obtain ⟨K', s1, s2, s3, _⟩ := put_range (c := H.length + 2) (e2.2 _ _ (by simp : _ = some (some (⟨3, true, [.bool false, .int .i64 0, .int .i64 0]⟩ : Blk))) id) rfl (spanR (lo * lo') (hi * hi'))
    simp only [Rng.enc] at s1 s2
    simp [tab, s1, s2, twoR, Rng.enc]
    exact Fr.then (f3.trans e2) s3 fun b hb => by omega
  by_cases o6 : op = 6
  · subst o6
    by_cases h1 : hi < lo'
    · simp [Try.f69, tab, Rng.enc, loadB, storeB, over, fillA, twoR, h1]
      exact Fr.app _ _
    · by_cases h2 : hi' ≤ lo <;> simp [Try.f69, tab, Rng.enc, loadB, storeB, over, fillA, twoR, h1, h2] <;> exact Fr.app _ _
  by_cases o7 : op = 7
  · subst o7
    simp [Try.f69, tab, Rng.enc, loadB]
    refine (l6Meet_ok ⟨false, lo, hi⟩ ⟨false, lo', hi'⟩ _).mono fun r K ⟨e1, e2⟩ => ?_
    subst e1
    have hz := e2.2 (H.length + 2) _ (by simp : _ = some (some (⟨3, true, [.bool false, .int .i64 0, .int .i64 0]⟩ : Blk))) id
    cases hme : (meetR ⟨false, lo, hi⟩ ⟨false, lo', hi'⟩).em with
    | true =>
      obtain ⟨K', s1, s2, s3, _⟩ := put_range hz rfl ⟨false, 0, 0⟩
      simp [Rng.enc] at s1 s2
      simp [tab, s1, s2, twoR, Rng.enc, hme, fieldA, partA, fillA, over]
      exact Fr.then (f3.trans e2) s3 fun b hb => by omega
    | false =>
      obtain ⟨K', s1, s2, s3, _⟩ := put_range hz rfl ⟨false, 0, 1⟩
      simp [Rng.enc] at s1 s2
      simp [tab, s1, s2, twoR, Rng.enc, hme, fieldA, partA, fillA, over]
      exact Fr.then (f3.trans e2) s3 fun b hb => by omega
  simp [Try.f69, tab, Rng.enc, loadB, storeB, over, fillA, twoR, o3, o4, o5, o6, o7]
  exact Fr.app _ _
set_option maxRecDepth 100000 in
theorem rangeOf_ok (op : Int) (a b : Rng) (H : Hp) (ha : GoodR a) (hb : GoodR b) : T Try.prog 70 [.int .i64 op, .agg a.enc, .agg b.enc] H (fun r K => r = .agg (twoR op a b).enc ∧ Fr H K) := by
  refine T.by tabOk Try.func70 (by kernel_rfl) rfl _ (by simp [Try.f70]) H _ ?_
  have h1 := good_range ha
  have h2 := good_range hb
  have m1 := mul_range ⟨h1.1, h1.2.1⟩ ⟨h2.1, h2.2.1⟩
  have m2 := mul_range ⟨h1.2.2.1, h1.2.2.2⟩ ⟨h2.2.2.1, h2.2.2.2⟩
  have w1 := wrap64 (x := a.lo + b.lo) (by omega) (by omega)
  have w2 := wrap64 (x := a.hi + b.hi) (by omega) (by omega)
  have w3 := wrap64 (x := a.lo - b.hi) (by omega) (by omega)
  have w4 := wrap64 (x := a.hi - b.lo) (by omega) (by omega)
  have w5 := wrap64 (x := a.lo * b.lo) (by omega) (by omega)
  have w6 := wrap64 (x := a.hi * b.hi) (by omega) (by omega)
  clear ha hb h1 h2 m1 m2
  by_cases hem : a.em = true ∨ b.em = true
  · obtain ⟨em, lo, hi⟩ := a
    obtain ⟨em', lo', hi'⟩ := b
    cases em <;> cases em' <;> simp at hem <;> simp [Try.f70, tab, Rng.enc, loadB, storeB, over, fillA, twoR] <;> exact Fr.app _ _
  obtain ⟨em, lo, hi⟩ := a
  obtain ⟨em', lo', hi'⟩ := b
  simp only [not_or, Bool.not_eq_true] at hem
  obtain ⟨rfl, rfl⟩ := hem
  simp only at w1 w2 w3 w4 w5 w6
  by_cases o3 : op = 3
  · subst o3
    by_cases c1 : lo + lo' < 0 <;> by_cases c2 : 65535 < hi + hi' <;> simp [Try.f70, tab, Rng.enc, loadB, storeB, over, fillA, twoR, spanR, w1, w2, c1, c2] <;> exact Fr.app _ _
  by_cases o5 : op = 5
  · subst o5
    by_cases c1 : lo * lo' < 0 <;> by_cases c2 : 65535 < hi * hi' <;> simp [Try.f70, tab, Rng.enc, loadB, storeB, over, fillA, twoR, spanR, w5, w6, c1, c2] <;> exact Fr.app _ _
  by_cases o4 : op = 4
  · subst o4
    by_cases c1 : lo - hi' < 0 <;> by_cases c2 : 65535 < hi - lo' <;> simp [Try.f70, tab, Rng.enc, loadB, storeB, over, fillA, twoR, spanR, w3, w4, c1, c2] <;> exact Fr.app _ _
  by_cases o6 : op = 6
  · subst o6
    by_cases h1 : hi < lo' <;> by_cases h2 : hi' ≤ lo <;> simp [Try.f70, tab, Rng.enc, loadB, storeB, over, fillA, twoR, h1, h2] <;> exact Fr.app _ _
  by_cases o7 : op = 7
  · subst o7
    simp [Try.f70, tab, Rng.enc, loadB, storeB, over, fillA]
    refine (meetRanges_ok ⟨false, lo, hi⟩ ⟨false, lo', hi'⟩ _).mono fun r K ⟨e1, e2⟩ => ?_
    subst e1
    have hz := e2.2 (H.length + 2) _ (by simp : _ = some (some (⟨3, true, [.bool false, .int .i64 0, .int .i64 0]⟩ : Blk))) id
    have hy := e2.2 (H.length + 3) _ (by simp : _ = some (some (⟨3, true, [.bool false, .int .i64 0, .int .i64 1]⟩ : Blk))) id
    have f4 : Fr H K := Keeps.trans (Fr.app H _) e2
    cases hme : (meetR ⟨false, lo, hi⟩ ⟨false, lo', hi'⟩).em with
    | true =>
      obtain ⟨K1, p1, p2, p3, p4⟩ := store_at hy rfl (ty := tI) (o := 2) (v := .int .i64 0) rfl rfl (by simp)
      simp [over] at p2
      have hz1 := p3.2 _ _ hz fun h => by omega
      have q1 : loadA tI K1 (.ptr (H.length + 3) 1) = some (.int .i64 0) := load_at p2 rfl rfl rfl
      have q2 : loadA tI K1 (.ptr (H.length + 3) 2) = some (.int .i64 0) := load_at p2 rfl rfl rfl
      have q3 : loadA tR K1 (.ptr (H.length + 3) 0) = some (.agg [.bool false, .int .i64 0, .int .i64 0]) := by simp [loadA, p2]
      obtain ⟨K', s1, s2, s3, _⟩ := put_range hz1 rfl ⟨false, 0, 0⟩
      simp [Rng.enc] at s1 s2
      simp [tab, p1, q1, q2, q3, s1, s2, twoR, Rng.enc, hme, fieldA, partA, fillA, over]
      exact Fr.then (Fr.then f4 p3 fun b hb => by omega) s3 fun b hb => by omega
    | false =>
      have q1 : loadA tI K (.ptr (H.length + 3) 1) = some (.int .i64 0) := load_at hy rfl rfl rfl
      have q2 : loadA tI K (.ptr (H.length + 3) 2) = some (.int .i64 1) := load_at hy rfl rfl rfl
      have q3 : loadA tR K (.ptr (H.length + 3) 0) = some (.agg [.bool false, .int .i64 0, .int .i64 1]) := by simp [loadA, hy]
      obtain ⟨K', s1, s2, s3, _⟩ := put_range hz rfl ⟨false, 0, 1⟩
      simp [Rng.enc] at s1 s2
      simp [tab, q1, q2, q3, s1, s2, twoR, Rng.enc, hme, fieldA, partA, fillA, over]
      exact Fr.then f4 s3 fun b hb => by omega
  simp [Try.f70, tab, Rng.enc, loadB, storeB, over, fillA, twoR, o3, o4, o5, o6, o7]
  exact Fr.app _ _
end Go.Proofs.Ytfndikfaibbjoaa.Am
