/- The questions about ranges, as the reference and the program answer. No condition. -/
import Derived.Test.YtfndikfaibbjoaaLSpans
namespace Go.Proofs.Ytfndikfaibbjoaa.Am
open Go Go.RowKit
set_option linter.unusedSimpArgs false
set_option linter.unusedVariables false

def pres (f : Rng → Rng → Rng) (a b : Rng) : Rng × Bool := if GoodR a ∧ GoodR b then (f a b, true) else (⟨false, 0, 0⟩, false)
def PRes (f : Rng → Rng → Rng) (a b : Rng) (H : Hp) (r : AV) (K : Hp) : Prop := r = .tup [.agg (pres f a b).1.enc, .bool (pres f a b).2] ∧ Fr H K
set_option maxRecDepth 100000 in
theorem specJoin_ok (a b : Rng) (H : Hp) : T Try.prog 40 [.agg a.enc, .agg b.enc] H (PRes joinR a b H) := by
  refine T.by tabOk Try.func40 (by kernel_rfl) rfl _ (by simp [Try.f40]) H _ ?_
  have f0 : Fr H (H ++ [some ⟨3, true, a.enc⟩, some ⟨3, true, b.enc⟩, some ⟨3, true, [.bool false, .int .i64 0, .int .i64 0]⟩]) := Fr.app _ _
  simp [Try.f40, tab, Rng.enc, loadB]
  refine (goodRange_ok a _).mono fun r K ⟨e1, f1⟩ => ?_
  subst e1
  have hz : K[H.length + 2]? = some (some ⟨3, true, [.bool false, .int .i64 0, .int .i64 0]⟩) := f1.2 _ _ (by simp) id
  have hla : loadA tR K (.ptr H.length 0) = some (.agg a.enc) := by rw [f1.load (by simp [loadB])]; simp [loadB, Rng.enc]
  have hlb : loadA tR K (.ptr (H.length + 1) 0) = some (.agg b.enc) := by rw [f1.load (by simp [loadB])]; simp [loadB, Rng.enc]
  have f01 : Fr H K := f0.trans f1
  by_cases ga : GoodR a
  case neg =>
    have hn : ¬ (GoodR a ∧ GoodR b) := fun h => ga h.1
    obtain ⟨K', s1, s2, s3, _⟩ := put_range hz rfl ⟨false, 0, 0⟩
    simp only [Rng.enc] at s1 s2
    simp [tab, ga, s1, s2, fillA, over]
    exact ⟨by simp [pres, hn, Rng.enc], Fr.then f01 s3 fun b hb => by omega⟩
  simp [tab, ga, hlb]
  refine (goodRange_ok b _).mono fun r K2 ⟨e1, f2⟩ => ?_
  subst e1
  have hz2 := f2.2 _ _ hz id
  have hla2 : loadA tR K2 (.ptr H.length 0) = some (.agg a.enc) := by rw [f2.load (by rw [hla]; rfl)]; exact hla
  have hlb2 : loadA tR K2 (.ptr (H.length + 1) 0) = some (.agg b.enc) := by rw [f2.load (by rw [hlb]; rfl)]; exact hlb
  by_cases gb : GoodR b
  case neg =>
    have hn : ¬ (GoodR a ∧ GoodR b) := fun h => gb h.2
    obtain ⟨K', s1, s2, s3, _⟩ := put_range hz2 rfl ⟨false, 0, 0⟩
    simp only [Rng.enc] at s1 s2
    simp [tab, gb, s1, s2, fillA, over]
    exact ⟨by simp [pres, hn, Rng.enc], Fr.then (f01.trans f2) s3 fun b hb => by omega⟩
  simp [tab, gb, hla2, hlb2]
  refine (l6Join_ok a b _).mono fun r K3 ⟨e1, f3⟩ => ?_
  subst e1
  obtain ⟨K', s1, s2, s3, _⟩ := put_range (f3.2 _ _ hz2 id) rfl (joinR a b)
  simp [tab, s1, s2]
  exact ⟨by simp [pres, ga, gb], Fr.then ((f01.trans f2).trans f3) s3 fun b hb => by omega⟩
set_option maxRecDepth 100000 in
theorem implJoin_ok (a b : Rng) (H : Hp) : T Try.prog 39 [.agg a.enc, .agg b.enc] H (PRes joinR a b H) := by
  refine T.by tabOk Try.func39 (by kernel_rfl) rfl _ (by simp [Try.f39]) H _ ?_
  have f0 : Fr H (H ++ [some ⟨3, true, a.enc⟩, some ⟨3, true, b.enc⟩, some ⟨3, true, [.bool false, .int .i64 0, .int .i64 0]⟩]) := Fr.app _ _
  simp [Try.f39, tab, Rng.enc, loadB]
  refine (isSpan_ok a _).mono fun r K ⟨e1, f1⟩ => ?_
  subst e1
  have hz : K[H.length + 2]? = some (some ⟨3, true, [.bool false, .int .i64 0, .int .i64 0]⟩) := f1.2 _ _ (by simp) id
  have hla : loadA tR K (.ptr H.length 0) = some (.agg a.enc) := by rw [f1.load (by simp [loadB])]; simp [loadB, Rng.enc]
  have hlb : loadA tR K (.ptr (H.length + 1) 0) = some (.agg b.enc) := by rw [f1.load (by simp [loadB])]; simp [loadB, Rng.enc]
  have f01 : Fr H K := f0.trans f1
  by_cases ga : GoodR a
  case neg =>
    have hn : ¬ (GoodR a ∧ GoodR b) := fun h => ga h.1
    obtain ⟨K', s1, s2, s3, _⟩ := put_range hz rfl ⟨false, 0, 0⟩
    simp only [Rng.enc] at s1 s2
    simp [tab, ga, s1, s2, fillA, over]
    exact ⟨by simp [pres, hn, Rng.enc], Fr.then f01 s3 fun b hb => by omega⟩
  simp [tab, ga, hlb]
  refine (isSpan_ok b _).mono fun r K2 ⟨e1, f2⟩ => ?_
  subst e1
  have hz2 := f2.2 _ _ hz id
  have hla2 : loadA tR K2 (.ptr H.length 0) = some (.agg a.enc) := by rw [f2.load (by rw [hla]; rfl)]; exact hla
  have hlb2 : loadA tR K2 (.ptr (H.length + 1) 0) = some (.agg b.enc) := by rw [f2.load (by rw [hlb]; rfl)]; exact hlb
  by_cases gb : GoodR b
  case neg =>
    have hn : ¬ (GoodR a ∧ GoodR b) := fun h => gb h.2
    obtain ⟨K', s1, s2, s3, _⟩ := put_range hz2 rfl ⟨false, 0, 0⟩
    simp only [Rng.enc] at s1 s2
    simp [tab, gb, s1, s2, fillA, over]
    exact ⟨by simp [pres, hn, Rng.enc], Fr.then (f01.trans f2) s3 fun b hb => by omega⟩
  simp [tab, gb, hla2, hlb2]
  refine (joinRanges_ok a b _).mono fun r K3 ⟨e1, f3⟩ => ?_
  subst e1
  obtain ⟨K', s1, s2, s3, _⟩ := put_range (f3.2 _ _ hz2 id) rfl (joinR a b)
  simp [tab, s1, s2]
  exact ⟨by simp [pres, ga, gb], Fr.then ((f01.trans f2).trans f3) s3 fun b hb => by omega⟩
set_option maxRecDepth 100000 in
theorem specMeet_ok (a b : Rng) (H : Hp) : T Try.prog 42 [.agg a.enc, .agg b.enc] H (PRes meetR a b H) := by
  refine T.by tabOk Try.func42 (by kernel_rfl) rfl _ (by simp [Try.f42]) H _ ?_
  have f0 : Fr H (H ++ [some ⟨3, true, a.enc⟩, some ⟨3, true, b.enc⟩, some ⟨3, true, [.bool false, .int .i64 0, .int .i64 0]⟩]) := Fr.app _ _
  simp [Try.f42, tab, Rng.enc, loadB]
  refine (goodRange_ok a _).mono fun r K ⟨e1, f1⟩ => ?_
  subst e1
  have hz : K[H.length + 2]? = some (some ⟨3, true, [.bool false, .int .i64 0, .int .i64 0]⟩) := f1.2 _ _ (by simp) id
  have hla : loadA tR K (.ptr H.length 0) = some (.agg a.enc) := by rw [f1.load (by simp [loadB])]; simp [loadB, Rng.enc]
  have hlb : loadA tR K (.ptr (H.length + 1) 0) = some (.agg b.enc) := by rw [f1.load (by simp [loadB])]; simp [loadB, Rng.enc]
  have f01 : Fr H K := f0.trans f1
  by_cases ga : GoodR a
  case neg =>
    have hn : ¬ (GoodR a ∧ GoodR b) := fun h => ga h.1
    obtain ⟨K', s1, s2, s3, _⟩ := put_range hz rfl ⟨false, 0, 0⟩
    simp only [Rng.enc] at s1 s2
    simp [tab, ga, s1, s2, fillA, over]
    exact ⟨by simp [pres, hn, Rng.enc], Fr.then f01 s3 fun b hb => by omega⟩
  simp [tab, ga, hlb]
  refine (goodRange_ok b _).mono fun r K2 ⟨e1, f2⟩ => ?_
  subst e1
  have hz2 := f2.2 _ _ hz id
  have hla2 : loadA tR K2 (.ptr H.length 0) = some (.agg a.enc) := by rw [f2.load (by rw [hla]; rfl)]; exact hla
  have hlb2 : loadA tR K2 (.ptr (H.length + 1) 0) = some (.agg b.enc) := by rw [f2.load (by rw [hlb]; rfl)]; exact hlb
  by_cases gb : GoodR b
  case neg =>
    have hn : ¬ (GoodR a ∧ GoodR b) := fun h => gb h.2
    obtain ⟨K', s1, s2, s3, _⟩ := put_range hz2 rfl ⟨false, 0, 0⟩
    simp only [Rng.enc] at s1 s2
    simp [tab, gb, s1, s2, fillA, over]
    exact ⟨by simp [pres, hn, Rng.enc], Fr.then (f01.trans f2) s3 fun b hb => by omega⟩
  simp [tab, gb, hla2, hlb2]
  refine (l6Meet_ok a b _).mono fun r K3 ⟨e1, f3⟩ => ?_
  subst e1
  obtain ⟨K', s1, s2, s3, _⟩ := put_range (f3.2 _ _ hz2 id) rfl (meetR a b)
  simp [tab, s1, s2]
  exact ⟨by simp [pres, ga, gb], Fr.then ((f01.trans f2).trans f3) s3 fun b hb => by omega⟩
set_option maxRecDepth 100000 in
theorem implMeet_ok (a b : Rng) (H : Hp) : T Try.prog 41 [.agg a.enc, .agg b.enc] H (PRes meetR a b H) := by
  refine T.by tabOk Try.func41 (by kernel_rfl) rfl _ (by simp [Try.f41]) H _ ?_
  have f0 : Fr H (H ++ [some ⟨3, true, a.enc⟩, some ⟨3, true, b.enc⟩, some ⟨3, true, [.bool false, .int .i64 0, .int .i64 0]⟩]) := Fr.app _ _
  simp [Try.f41, tab, Rng.enc, loadB]
  refine (isSpan_ok a _).mono fun r K ⟨e1, f1⟩ => ?_
  subst e1
  have hz : K[H.length + 2]? = some (some ⟨3, true, [.bool false, .int .i64 0, .int .i64 0]⟩) := f1.2 _ _ (by simp) id
  have hla : loadA tR K (.ptr H.length 0) = some (.agg a.enc) := by rw [f1.load (by simp [loadB])]; simp [loadB, Rng.enc]
  have hlb : loadA tR K (.ptr (H.length + 1) 0) = some (.agg b.enc) := by rw [f1.load (by simp [loadB])]; simp [loadB, Rng.enc]
  have f01 : Fr H K := f0.trans f1
  by_cases ga : GoodR a
  case neg =>
    have hn : ¬ (GoodR a ∧ GoodR b) := fun h => ga h.1
    obtain ⟨K', s1, s2, s3, _⟩ := put_range hz rfl ⟨false, 0, 0⟩
    simp only [Rng.enc] at s1 s2
    simp [tab, ga, s1, s2, fillA, over]
    exact ⟨by simp [pres, hn, Rng.enc], Fr.then f01 s3 fun b hb => by omega⟩
  simp [tab, ga, hlb]
  refine (isSpan_ok b _).mono fun r K2 ⟨e1, f2⟩ => ?_
  subst e1
  have hz2 := f2.2 _ _ hz id
  have hla2 : loadA tR K2 (.ptr H.length 0) = some (.agg a.enc) := by rw [f2.load (by rw [hla]; rfl)]; exact hla
  have hlb2 : loadA tR K2 (.ptr (H.length + 1) 0) = some (.agg b.enc) := by rw [f2.load (by rw [hlb]; rfl)]; exact hlb
  by_cases gb : GoodR b
  case neg =>
    have hn : ¬ (GoodR a ∧ GoodR b) := fun h => gb h.2
    obtain ⟨K', s1, s2, s3, _⟩ := put_range hz2 rfl ⟨false, 0, 0⟩
    simp only [Rng.enc] at s1 s2
    simp [tab, gb, s1, s2, fillA, over]
    exact ⟨by simp [pres, hn, Rng.enc], Fr.then (f01.trans f2) s3 fun b hb => by omega⟩
  simp [tab, gb, hla2, hlb2]
  refine (meetRanges_ok a b _).mono fun r K3 ⟨e1, f3⟩ => ?_
  subst e1
  obtain ⟨K', s1, s2, s3, _⟩ := put_range (f3.2 _ _ hz2 id) rfl (meetR a b)
  simp [tab, s1, s2]
  exact ⟨by simp [pres, ga, gb], Fr.then ((f01.trans f2).trans f3) s3 fun b hb => by omega⟩
set_option maxRecDepth 100000 in
theorem specWiden_ok (a b : Rng) (H : Hp) : T Try.prog 10 [.agg a.enc, .agg b.enc] H (PRes widenR a b H) := by
  refine T.by tabOk Try.func10 (by kernel_rfl) rfl _ (by simp [Try.f10]) H _ ?_
  have f0 : Fr H (H ++ [some ⟨3, true, a.enc⟩, some ⟨3, true, b.enc⟩, some ⟨3, true, [.bool false, .int .i64 0, .int .i64 0]⟩]) := Fr.app _ _
  simp [Try.f10, tab, Rng.enc, loadB]
  refine (goodRange_ok a _).mono fun r K ⟨e1, f1⟩ => ?_
  subst e1
  have hz : K[H.length + 2]? = some (some ⟨3, true, [.bool false, .int .i64 0, .int .i64 0]⟩) := f1.2 _ _ (by simp) id
  have hla : loadA tR K (.ptr H.length 0) = some (.agg a.enc) := by rw [f1.load (by simp [loadB])]; simp [loadB, Rng.enc]
  have hlb : loadA tR K (.ptr (H.length + 1) 0) = some (.agg b.enc) := by rw [f1.load (by simp [loadB])]; simp [loadB, Rng.enc]
  have f01 : Fr H K := f0.trans f1
  by_cases ga : GoodR a
  case neg =>
    have hn : ¬ (GoodR a ∧ GoodR b) := fun h => ga h.1
    obtain ⟨K', s1, s2, s3, _⟩ := put_range hz rfl ⟨false, 0, 0⟩
    simp only [Rng.enc] at s1 s2
    simp [tab, ga, s1, s2, fillA, over]
    exact ⟨by simp [pres, hn, Rng.enc], Fr.then f01 s3 fun b hb => by omega⟩
  simp [tab, ga, hlb]
  refine (goodRange_ok b _).mono fun r K2 ⟨e1, f2⟩ => ?_
  subst e1
  have hz2 := f2.2 _ _ hz id
  have hla2 : loadA tR K2 (.ptr H.length 0) = some (.agg a.enc) := by rw [f2.load (by rw [hla]; rfl)]; exact hla
  have hlb2 : loadA tR K2 (.ptr (H.length + 1) 0) = some (.agg b.enc) := by rw [f2.load (by rw [hlb]; rfl)]; exact hlb
  by_cases gb : GoodR b
  case neg =>
    have hn : ¬ (GoodR a ∧ GoodR b) := fun h => gb h.2
    obtain ⟨K', s1, s2, s3, _⟩ := put_range hz2 rfl ⟨false, 0, 0⟩
    simp only [Rng.enc] at s1 s2
    simp [tab, gb, s1, s2, fillA, over]
    exact ⟨by simp [pres, hn, Rng.enc], Fr.then (f01.trans f2) s3 fun b hb => by omega⟩
  simp [tab, gb, hla2, hlb2]
  refine (l6Widen_ok a b _).mono fun r K3 ⟨e1, f3⟩ => ?_
  subst e1
  obtain ⟨K', s1, s2, s3, _⟩ := put_range (f3.2 _ _ hz2 id) rfl (widenR a b)
  simp [tab, s1, s2]
  exact ⟨by simp [pres, ga, gb], Fr.then ((f01.trans f2).trans f3) s3 fun b hb => by omega⟩
set_option maxRecDepth 100000 in
theorem implWiden_ok (a b : Rng) (H : Hp) : T Try.prog 12 [.agg a.enc, .agg b.enc] H (PRes widenR a b H) := by
  refine T.by tabOk Try.func12 (by kernel_rfl) rfl _ (by simp [Try.f12]) H _ ?_
  have f0 : Fr H (H ++ [some ⟨3, true, a.enc⟩, some ⟨3, true, b.enc⟩, some ⟨3, true, [.bool false, .int .i64 0, .int .i64 0]⟩]) := Fr.app _ _
  simp [Try.f12, tab, Rng.enc, loadB]
  refine (isSpan_ok a _).mono fun r K ⟨e1, f1⟩ => ?_
  subst e1
  have hz : K[H.length + 2]? = some (some ⟨3, true, [.bool false, .int .i64 0, .int .i64 0]⟩) := f1.2 _ _ (by simp) id
  have hla : loadA tR K (.ptr H.length 0) = some (.agg a.enc) := by rw [f1.load (by simp [loadB])]; simp [loadB, Rng.enc]
  have hlb : loadA tR K (.ptr (H.length + 1) 0) = some (.agg b.enc) := by rw [f1.load (by simp [loadB])]; simp [loadB, Rng.enc]
  have f01 : Fr H K := f0.trans f1
  by_cases ga : GoodR a
  case neg =>
    have hn : ¬ (GoodR a ∧ GoodR b) := fun h => ga h.1
    obtain ⟨K', s1, s2, s3, _⟩ := put_range hz rfl ⟨false, 0, 0⟩
    simp only [Rng.enc] at s1 s2
    simp [tab, ga, s1, s2, fillA, over]
    exact ⟨by simp [pres, hn, Rng.enc], Fr.then f01 s3 fun b hb => by omega⟩
  simp [tab, ga, hlb]
  refine (isSpan_ok b _).mono fun r K2 ⟨e1, f2⟩ => ?_
  subst e1
  have hz2 := f2.2 _ _ hz id
  have hla2 : loadA tR K2 (.ptr H.length 0) = some (.agg a.enc) := by rw [f2.load (by rw [hla]; rfl)]; exact hla
  have hlb2 : loadA tR K2 (.ptr (H.length + 1) 0) = some (.agg b.enc) := by rw [f2.load (by rw [hlb]; rfl)]; exact hlb
  by_cases gb : GoodR b
  case neg =>
    have hn : ¬ (GoodR a ∧ GoodR b) := fun h => gb h.2
    obtain ⟨K', s1, s2, s3, _⟩ := put_range hz2 rfl ⟨false, 0, 0⟩
    simp only [Rng.enc] at s1 s2
    simp [tab, gb, s1, s2, fillA, over]
    exact ⟨by simp [pres, hn, Rng.enc], Fr.then (f01.trans f2) s3 fun b hb => by omega⟩
  simp [tab, gb, hla2, hlb2]
  refine (widen_ok a b _).mono fun r K3 ⟨e1, f3⟩ => ?_
  subst e1
  obtain ⟨K', s1, s2, s3, _⟩ := put_range (f3.2 _ _ hz2 id) rfl (widenR a b)
  simp [tab, s1, s2]
  exact ⟨by simp [pres, ga, gb], Fr.then ((f01.trans f2).trans f3) s3 fun b hb => by omega⟩
set_option maxRecDepth 100000 in
theorem specAdd_ok (a b : Rng) (H : Hp) : T Try.prog 27 [.agg a.enc, .agg b.enc] H (PRes (twoR 3) a b H) := by
  refine T.by tabOk Try.func27 (by kernel_rfl) rfl _ (by simp [Try.f27]) H _ ?_
  have f0 : Fr H (H ++ [some ⟨3, true, a.enc⟩, some ⟨3, true, b.enc⟩, some ⟨3, true, [.bool false, .int .i64 0, .int .i64 0]⟩]) := Fr.app _ _
  simp [Try.f27, tab, Rng.enc, loadB]
  refine (goodRange_ok a _).mono fun r K ⟨e1, f1⟩ => ?_
  subst e1
  have hz : K[H.length + 2]? = some (some ⟨3, true, [.bool false, .int .i64 0, .int .i64 0]⟩) := f1.2 _ _ (by simp) id
  have hla : loadA tR K (.ptr H.length 0) = some (.agg a.enc) := by rw [f1.load (by simp [loadB])]; simp [loadB, Rng.enc]
  have hlb : loadA tR K (.ptr (H.length + 1) 0) = some (.agg b.enc) := by rw [f1.load (by simp [loadB])]; simp [loadB, Rng.enc]
  have f01 : Fr H K := f0.trans f1
  by_cases ga : GoodR a
  case neg =>
    have hn : ¬ (GoodR a ∧ GoodR b) := fun h => ga h.1
    obtain ⟨K', s1, s2, s3, _⟩ := put_range hz rfl ⟨false, 0, 0⟩
    simp only [Rng.enc] at s1 s2
    simp [tab, ga, s1, s2, fillA, over]
    exact ⟨by simp [pres, hn, Rng.enc], Fr.then f01 s3 fun b hb => by omega⟩
  simp [tab, ga, hlb]
  refine (goodRange_ok b _).mono fun r K2 ⟨e1, f2⟩ => ?_
  subst e1
  have hz2 := f2.2 _ _ hz id
  have hla2 : loadA tR K2 (.ptr H.length 0) = some (.agg a.enc) := by rw [f2.load (by rw [hla]; rfl)]; exact hla
  have hlb2 : loadA tR K2 (.ptr (H.length + 1) 0) = some (.agg b.enc) := by rw [f2.load (by rw [hlb]; rfl)]; exact hlb
  by_cases gb : GoodR b
  case neg =>
    have hn : ¬ (GoodR a ∧ GoodR b) := fun h => gb h.2
    obtain ⟨K', s1, s2, s3, _⟩ := put_range hz2 rfl ⟨false, 0, 0⟩
    simp only [Rng.enc] at s1 s2
    simp [tab, gb, s1, s2, fillA, over]
    exact ⟨by simp [pres, hn, Rng.enc], Fr.then (f01.trans f2) s3 fun b hb => by omega⟩
  simp [tab, gb, hla2, hlb2]
  refine (l6Two_ok 3 a b _ ga gb).mono fun r K3 ⟨e1, f3⟩ => ?_
  subst e1
  obtain ⟨K', s1, s2, s3, _⟩ := put_range (f3.2 _ _ hz2 id) rfl ((twoR 3) a b)
  simp [tab, s1, s2]
  exact ⟨by simp [pres, ga, gb], Fr.then ((f01.trans f2).trans f3) s3 fun b hb => by omega⟩
set_option maxRecDepth 100000 in
theorem implAdd_ok (a b : Rng) (H : Hp) : T Try.prog 28 [.agg a.enc, .agg b.enc] H (PRes (twoR 3) a b H) := by
  refine T.by tabOk Try.func28 (by kernel_rfl) rfl _ (by simp [Try.f28]) H _ ?_
  have f0 : Fr H (H ++ [some ⟨3, true, a.enc⟩, some ⟨3, true, b.enc⟩, some ⟨3, true, [.bool false, .int .i64 0, .int .i64 0]⟩]) := Fr.app _ _
  simp [Try.f28, tab, Rng.enc, loadB]
  refine (isSpan_ok a _).mono fun r K ⟨e1, f1⟩ => ?_
  subst e1
  have hz : K[H.length + 2]? = some (some ⟨3, true, [.bool false, .int .i64 0, .int .i64 0]⟩) := f1.2 _ _ (by simp) id
  have hla : loadA tR K (.ptr H.length 0) = some (.agg a.enc) := by rw [f1.load (by simp [loadB])]; simp [loadB, Rng.enc]
  have hlb : loadA tR K (.ptr (H.length + 1) 0) = some (.agg b.enc) := by rw [f1.load (by simp [loadB])]; simp [loadB, Rng.enc]
  have f01 : Fr H K := f0.trans f1
  by_cases ga : GoodR a
  case neg =>
    have hn : ¬ (GoodR a ∧ GoodR b) := fun h => ga h.1
    obtain ⟨K', s1, s2, s3, _⟩ := put_range hz rfl ⟨false, 0, 0⟩
    simp only [Rng.enc] at s1 s2
    simp [tab, ga, s1, s2, fillA, over]
    exact ⟨by simp [pres, hn, Rng.enc], Fr.then f01 s3 fun b hb => by omega⟩
  simp [tab, ga, hlb]
  refine (isSpan_ok b _).mono fun r K2 ⟨e1, f2⟩ => ?_
  subst e1
  have hz2 := f2.2 _ _ hz id
  have hla2 : loadA tR K2 (.ptr H.length 0) = some (.agg a.enc) := by rw [f2.load (by rw [hla]; rfl)]; exact hla
  have hlb2 : loadA tR K2 (.ptr (H.length + 1) 0) = some (.agg b.enc) := by rw [f2.load (by rw [hlb]; rfl)]; exact hlb
  by_cases gb : GoodR b
  case neg =>
    have hn : ¬ (GoodR a ∧ GoodR b) := fun h => gb h.2
    obtain ⟨K', s1, s2, s3, _⟩ := put_range hz2 rfl ⟨false, 0, 0⟩
    simp only [Rng.enc] at s1 s2
    simp [tab, gb, s1, s2, fillA, over]
    exact ⟨by simp [pres, hn, Rng.enc], Fr.then (f01.trans f2) s3 fun b hb => by omega⟩
  simp [tab, gb, hla2, hlb2]
  refine (rangeOf_ok 3 a b _ ga gb).mono fun r K3 ⟨e1, f3⟩ => ?_
  subst e1
  obtain ⟨K', s1, s2, s3, _⟩ := put_range (f3.2 _ _ hz2 id) rfl ((twoR 3) a b)
  simp [tab, s1, s2]
  exact ⟨by simp [pres, ga, gb], Fr.then ((f01.trans f2).trans f3) s3 fun b hb => by omega⟩
set_option maxRecDepth 100000 in
theorem specMul_ok (a b : Rng) (H : Hp) : T Try.prog 29 [.agg a.enc, .agg b.enc] H (PRes (twoR 5) a b H) := by
  refine T.by tabOk Try.func29 (by kernel_rfl) rfl _ (by simp [Try.f29]) H _ ?_
  have f0 : Fr H (H ++ [some ⟨3, true, a.enc⟩, some ⟨3, true, b.enc⟩, some ⟨3, true, [.bool false, .int .i64 0, .int .i64 0]⟩]) := Fr.app _ _
  simp [Try.f29, tab, Rng.enc, loadB]
  refine (goodRange_ok a _).mono fun r K ⟨e1, f1⟩ => ?_
  subst e1
  have hz : K[H.length + 2]? = some (some ⟨3, true, [.bool false, .int .i64 0, .int .i64 0]⟩) := f1.2 _ _ (by simp) id
  have hla : loadA tR K (.ptr H.length 0) = some (.agg a.enc) := by rw [f1.load (by simp [loadB])]; simp [loadB, Rng.enc]
  have hlb : loadA tR K (.ptr (H.length + 1) 0) = some (.agg b.enc) := by rw [f1.load (by simp [loadB])]; simp [loadB, Rng.enc]
  have f01 : Fr H K := f0.trans f1
  by_cases ga : GoodR a
  case neg =>
    have hn : ¬ (GoodR a ∧ GoodR b) := fun h => ga h.1
    obtain ⟨K', s1, s2, s3, _⟩ := put_range hz rfl ⟨false, 0, 0⟩
    simp only [Rng.enc] at s1 s2
    simp [tab, ga, s1, s2, fillA, over]
    exact ⟨by simp [pres, hn, Rng.enc], Fr.then f01 s3 fun b hb => by omega⟩
  simp [tab, ga, hlb]
  refine (goodRange_ok b _).mono fun r K2 ⟨e1, f2⟩ => ?_
  subst e1
  have hz2 := f2.2 _ _ hz id
  have hla2 : loadA tR K2 (.ptr H.length 0) = some (.agg a.enc) := by rw [f2.load (by rw [hla]; rfl)]; exact hla
  have hlb2 : loadA tR K2 (.ptr (H.length + 1) 0) = some (.agg b.enc) := by rw [f2.load (by rw [hlb]; rfl)]; exact hlb
  by_cases gb : GoodR b
  case neg =>
    have hn : ¬ (GoodR a ∧ GoodR b) := fun h => gb h.2
    obtain ⟨K', s1, s2, s3, _⟩ := put_range hz2 rfl ⟨false, 0, 0⟩
    simp only [Rng.enc] at s1 s2
    simp [tab, gb, s1, s2, fillA, over]
    exact ⟨by simp [pres, hn, Rng.enc], Fr.then (f01.trans f2) s3 fun b hb => by omega⟩
  simp [tab, gb, hla2, hlb2]
  refine (l6Two_ok 5 a b _ ga gb).mono fun r K3 ⟨e1, f3⟩ => ?_
  subst e1
  obtain ⟨K', s1, s2, s3, _⟩ := put_range (f3.2 _ _ hz2 id) rfl ((twoR 5) a b)
  simp [tab, s1, s2]
  exact ⟨by simp [pres, ga, gb], Fr.then ((f01.trans f2).trans f3) s3 fun b hb => by omega⟩
set_option maxRecDepth 100000 in
theorem implMul_ok (a b : Rng) (H : Hp) : T Try.prog 30 [.agg a.enc, .agg b.enc] H (PRes (twoR 5) a b H) := by
  refine T.by tabOk Try.func30 (by kernel_rfl) rfl _ (by simp [Try.f30]) H _ ?_
  have f0 : Fr H (H ++ [some ⟨3, true, a.enc⟩, some ⟨3, true, b.enc⟩, some ⟨3, true, [.bool false, .int .i64 0, .int .i64 0]⟩]) := Fr.app _ _
  simp [Try.f30, tab, Rng.enc, loadB]
  refine (isSpan_ok a _).mono fun r K ⟨e1, f1⟩ => ?_
  subst e1
  have hz : K[H.length + 2]? = some (some ⟨3, true, [.bool false, .int .i64 0, .int .i64 0]⟩) := f1.2 _ _ (by simp) id
  have hla : loadA tR K (.ptr H.length 0) = some (.agg a.enc) := by rw [f1.load (by simp [loadB])]; simp [loadB, Rng.enc]
  have hlb : loadA tR K (.ptr (H.length + 1) 0) = some (.agg b.enc) := by rw [f1.load (by simp [loadB])]; simp [loadB, Rng.enc]
  have f01 : Fr H K := f0.trans f1
  by_cases ga : GoodR a
  case neg =>
    have hn : ¬ (GoodR a ∧ GoodR b) := fun h => ga h.1
    obtain ⟨K', s1, s2, s3, _⟩ := put_range hz rfl ⟨false, 0, 0⟩
    simp only [Rng.enc] at s1 s2
    simp [tab, ga, s1, s2, fillA, over]
    exact ⟨by simp [pres, hn, Rng.enc], Fr.then f01 s3 fun b hb => by omega⟩
  simp [tab, ga, hlb]
  refine (isSpan_ok b _).mono fun r K2 ⟨e1, f2⟩ => ?_
  subst e1
  have hz2 := f2.2 _ _ hz id
  have hla2 : loadA tR K2 (.ptr H.length 0) = some (.agg a.enc) := by rw [f2.load (by rw [hla]; rfl)]; exact hla
  have hlb2 : loadA tR K2 (.ptr (H.length + 1) 0) = some (.agg b.enc) := by rw [f2.load (by rw [hlb]; rfl)]; exact hlb
  by_cases gb : GoodR b
  case neg =>
    have hn : ¬ (GoodR a ∧ GoodR b) := fun h => gb h.2
    obtain ⟨K', s1, s2, s3, _⟩ := put_range hz2 rfl ⟨false, 0, 0⟩
    simp only [Rng.enc] at s1 s2
    simp [tab, gb, s1, s2, fillA, over]
    exact ⟨by simp [pres, hn, Rng.enc], Fr.then (f01.trans f2) s3 fun b hb => by omega⟩
  simp [tab, gb, hla2, hlb2]
  refine (rangeOf_ok 5 a b _ ga gb).mono fun r K3 ⟨e1, f3⟩ => ?_
  subst e1
  obtain ⟨K', s1, s2, s3, _⟩ := put_range (f3.2 _ _ hz2 id) rfl ((twoR 5) a b)
  simp [tab, s1, s2]
  exact ⟨by simp [pres, ga, gb], Fr.then ((f01.trans f2).trans f3) s3 fun b hb => by omega⟩
end Go.Proofs.Ytfndikfaibbjoaa.Am
