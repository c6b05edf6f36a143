/- The law of FlowRanges. No condition. -/
import Derived.Test.YtfndikfaibbjoaaLRngSpec
import Derived.Test.YtfndikfaibbjoaaLRngLaws
import Derived.Test.YtfndikfaibbjoaaLBlocks
namespace Go.Proofs.Ytfndikfaibbjoaa.Am
open Go Go.RowKit
set_option linter.unusedSimpArgs false
set_option linter.unusedVariables false

theorem frRes_wide (f : List Bk) (R : List Rng) : ∃ n, n ≤ 8 ∧ Wide n (frRes f R).1 := by
  unfold frRes
  split
  next h =>
    exact ⟨f.length, h.1.1.2, (flowRR_end h.1 h.2).1.wide⟩
  next h => exact ⟨0, by omega, rfl, by simp⟩
set_option maxHeartbeats 1000000 in
theorem law_in (H : Hp) (x0 x1 : AV) (h0 : SSl 4 48 (SPair (SSl 5 40 (SPair (SInt .i64) (SPair (SInt .i64) (SPair (SInt .i64) (SPair (SInt .i64) (SInt .i64)))))) (SPair (SInt .i64) (SPair (SInt .i64) (SInt .i64)))) H [x0]) (hx1 : SSl 3 24 (SPair SBool (SPair (SInt .i64) (SInt .i64))) H [x1]) : T Try.prog 4 [x0, x1] H (fun r K => r = .bool true) := by
  obtain ⟨f, ws, hv, hm, hmm⟩ := blocks_open H x0 h0
  obtain ⟨vars, hvv, hmv0⟩ := rngs_open H x1 hx1
  refine T.by tabOk Try.func4 (by kernel_rfl) rfl _ (by simp [Try.f4]) H _ ?_
  simp [Try.f4]
  refine (szBlockS_le f ws x0 H hm hmm hv).mono fun r Ka ⟨z, h1, h2, h3, h4, h5⟩ => ?_
  subst h1
  by_cases hz : z < 0
  · simp [tab, hz]
  simp [tab, hz]
  refine (szRangeS_ok vars x1 z Ka (by omega) (by omega) hmv0 (hvv.fr h2)).mono fun r K ⟨e1, e2⟩ => ?_
  subst e1 e2
  by_cases hz2 : z < vars.length
  · simp [tab, hz2]
  have hz3 : ¬ z - (vars.length : Int) < 0 := by omega
  simp [tab, hz2, hz3]
  obtain ⟨hm, hmm⟩ := h3 (by omega)
  have hmv : vars.length ≤ 1048576 := by omega
  obtain ⟨n, hn, hwide⟩ := frRes_wide f vars
  refine (toBlockS_ok f ws x0 K hm hmm (hv.fr h2)).mono fun x K1a ⟨⟨us1, a1, a2⟩, a3, a4⟩ => ?_
  simp
  refine (toRangeS_ok vars x1 K1a hmv (hvv.fr (h2.trans a4))).mono fun xv K1 ⟨av1, av2, av3⟩ => ?_
  simp
  refine (specFR_ok f us1 x vars xv K1 hm hmm hmv (a1.look.fr av3) av1.row).mono fun x K2 ⟨w0, b1, ⟨uw, b2, b5⟩, b3, b4⟩ => ?_
  subst b1
  have f2 : Fr K K2 := a4.trans (av3.trans b4)
  simp [tab]
  refine (toBlockS_ok f ws x0 K2 hm hmm (hv.fr (h2.trans f2))).mono fun y0 K3a ⟨⟨us3, c1, c2⟩, c3, c4⟩ => ?_
  simp
  refine (toRangeS_ok vars x1 K3a hmv (hvv.fr (h2.trans (f2.trans c4)))).mono fun y1 K3 ⟨cv1, cv2, cv3⟩ => ?_
  have f3 := f2.trans (c4.trans cv3)
  simp
  refine (implFR_ok f us3 y0 vars y1 K3 hm hmm hmv (c1.look.fr cv3) cv1.row).mono fun x K4 ⟨g0, d1, ⟨ug, d2, d5⟩, d3, d4⟩ => ?_
  subst d1
  have f4 := f3.trans d4
  have w4 := b2.fr ((c4.trans cv3).trans d4)
  simp [tab]
  refine (eqRangeSS_ok n _ ug uw g0 w0 K4 (by omega) hwide d2 w4).mono fun y K' ⟨e1, e2⟩ => ?_
  subst e1
  simp [tab]
  refine (toBlockS_ok f ws x0 K' hm hmm (hv.fr (h2.trans (f4.trans e2)))).mono fun x5 K5 ⟨⟨us5, p1, p2⟩, p3, p4⟩ => ?_
  simp
  have p4 := e2.trans p4
  refine (eqBlockS_ok f f us3 us5 y0 x5 K5 hm hmm (((c1.look.fr cv3).fr d4).fr p4) p1.look).mono fun y K6a ⟨q1, q2⟩ => ?_
  subst q1
  simp [tab]
  refine (toRangeS_ok vars x1 K6a hmv (hvv.fr (h2.trans (f4.trans (p4.trans q2))))).mono fun x5v K6b ⟨pv1, pv2, pv3⟩ => ?_
  simp
  have y1row : Own 3 K6b y1 (rngs vars) := cv1.fr (d4.trans (p4.trans (q2.trans pv3)))
  refine (eqRangeS_ok vars vars y1 x5v K6b hmv y1row.row pv1.row).mono fun y K6 ⟨qv1, qv2⟩ => ?_
  subst qv1
  have p46 : Fr K4 K6 := p4.trans (q2.trans (pv3.trans qv2))
  have f6 := f4.trans p46
  have x6 : FOwn K6 y0 f us3 := c1.fr (cv3.trans (d4.trans p46))
  have y6 : Own 3 K6 y1 (rngs vars) := cv1.fr (d4.trans p46)
  simp [tab]
  refine (markBlockS_ok f us3 y0 K6 hm hmm x6).mono fun y K7a ⟨r1, r2, r3⟩ => ?_
  subst r1
  have hxl : ∀ b, (y0.at b ∨ ∃ u ∈ us3, u.at b) → K2.length ≤ b ∧ b < K3a.length := fun b hb => ⟨hb.elim (c3 b) (fun ⟨u, hu, h⟩ => c2 u hu b h), c1.lt b hb⟩
  have hyl : ∀ b, y1.at b → K3a.length ≤ b ∧ b < K3.length := fun b hb => ⟨cv2 b hb, cv1.lt b hb⟩
  have hwl : ∀ b, (w0.at b ∨ ∃ u ∈ uw, u.at b) → b < K2.length := b2.lt
  have hgl : ∀ b, (g0.at b ∨ ∃ u ∈ ug, u.at b) → K3.length ≤ b := fun b hb => hb.elim (d3 b) fun ⟨u, hu, h⟩ => d5 u hu b h
  have l1 := c4.1
  have l2 := cv3.1
  have l3 := f2.1
  have w7a := (w4.fr p46).keeps r3 fun b hb hx => by have := hxl b hx; have := hwl b hb; omega
  have g7a := (d2.fr p46).keeps r3 fun b hb hx => by have := hxl b hx; have := hgl b hb; omega
  have y7a := y6.keeps r3 fun b hb hx => by have := hxl b hx; have := hyl b hb; omega
  have f7a : Fr K K7a := Fr.then f6 r3 fun b hb => by have := hxl b hb; omega
  have hbig := wB_le (f.map fun t => t.code.length) (by simpa using hmm)
  simp only [List.length_map] at hbig
  simp [tab]
  refine (markRangeS_ok vars y1 _ K7a (by omega) (by omega) hmv y7a).mono fun y K7 ⟨rv1, rv2, rv3⟩ => ?_
  subst rv1
  have w7 := w7a.keeps rv3 fun b hb hx => by have := hyl b hx; have := hwl b hb; omega
  have g7 := g7a.keeps rv3 fun b hb hx => by have := hyl b hx; have := hgl b hb; omega
  have f7 : Fr K K7 := Fr.then f7a rv3 fun b hb => by have := hyl b hb; omega
  have hk : ¬ (1 : Int) + (wB (f.map fun t => t.code.length) : Nat) + 3 * vars.length < 0 := by omega
  simp [tab, hk]
  refine (eqRangeSS_ok n _ ug uw g0 w0 K7 (by omega) hwide g7 w7).mono fun y K' ⟨e1, e3⟩ => ?_
  subst e1
  simp [tab]
  refine (markRangeSS_ok n _ ug g0 K' (by omega) hwide (g7.fr e3)).mono fun y K8 ⟨s1, s2, s3⟩ => ?_
  subst s1
  have w8 := (w7.fr e3).keeps s3 fun b hb hx => by have := hwl b hb; have := hgl b (.inr hx); omega
  have f8 : Fr K K8 := Fr.then (f7.trans e3) s3 fun b hx => by have := hgl b (.inr hx); have := f3.1; omega
  simp
  refine (heldRangeSS_ok n ug g0 K8 (by omega) s2).mono fun y K' ⟨e1, e4⟩ => ?_
  subst e1 e4
  have hneg : ¬ (1 : Int) + 24 * n < 0 := by omega
  simp [tab, hneg]
  refine (toBlockS_ok f ws x0 K' hm hmm (hv.fr (h2.trans f8))).mono fun x9 K9a ⟨⟨us9, t1, t2⟩, t3, t4⟩ => ?_
  simp
  refine (toRangeS_ok vars x1 K9a hmv (hvv.fr (h2.trans (f8.trans t4)))).mono fun x9v K9 ⟨tv1, tv2, tv3⟩ => ?_
  simp
  refine (implFR_ok f us9 x9 vars x9v K9 hm hmm hmv (t1.look.fr tv3) tv1.row).mono fun x K10 ⟨h0', u1, ⟨uh, u2, u5⟩, u3, u4⟩ => ?_
  subst u1
  simp [tab]
  have t4 := t4.trans tv3
  refine (eqRangeSS_ok n _ uh uw h0' w0 K10 (by omega) hwide u2 (w8.fr (t4.trans u4))).mono fun y K'' ⟨e1, e5⟩ => ?_
  subst e1
  simp [tab]
  refine (heldRangeSS_ok n ug g0 K'' (by omega) (s2.fr (t4.trans (u4.trans e5)))).mono fun y K' ⟨e1, e6⟩ => ?_
  subst e1 e6
  simp [tab, hneg]
end Go.Proofs.Ytfndikfaibbjoaa.Am
