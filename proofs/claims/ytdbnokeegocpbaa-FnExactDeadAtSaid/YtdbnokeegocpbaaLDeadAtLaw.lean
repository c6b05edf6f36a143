/- The law of DeadAt. No condition. -/
import Derived.Test.YtdbnokeegocpbaaLDead
namespace Go.Proofs.Ytdbnokeegocpbaa.Am
open Go Go.RowKit
set_option linter.unusedSimpArgs false
set_option linter.unusedVariables false

theorem law_in (H : Hp) (x0 : AV) (h0 : SSl 4 48 (SPair (SSl 5 40 (SPair (SInt .i64) (SPair (SInt .i64) (SPair (SInt .i64) (SPair (SInt .i64) (SInt .i64)))))) (SPair (SInt .i64) (SPair (SInt .i64) (SInt .i64)))) H [x0]) : T Try.prog 7 [x0] H (fun r K => r = .bool true) := by
  obtain ⟨f, ws, hv, hm, hmm⟩ := blocks_open H x0 h0
  refine T.by tabOk Try.func7 (by kernel_rfl) rfl _ (by simp [Try.f7]) H _ ?_
  simp [Try.f7]
  refine (szBlockS_ok f ws x0 H hm hmm hv).mono fun r K ⟨z, h1, h2, h3⟩ => ?_
  subst h1
  by_cases hz : z < 0
  · simp [tab, hz]
  simp [tab, hz]
  obtain ⟨hm, hmm⟩ := h3 (by omega)
  obtain ⟨hfew, hfew2⟩ := deadRes_few f
  have hsum : ((deadRes f).1.map List.length).sum ≤ 1099511627776 := by
    have : ∀ (Ls : List (List Int)) (c : Nat), (∀ L ∈ Ls, L.length ≤ c) → (Ls.map List.length).sum ≤ c * Ls.length := by
      intro Ls c
      induction Ls with
      | nil => simp
      | cons L Ls ih =>
        intro h
        have := ih fun M hM => h M (by simp [hM])
        have := h L (by simp)
        simp [Nat.mul_add]
        omega
    have := this _ _ hfew2
    omega
  refine (toBlockS_ok f ws x0 K hm hmm (hv.fr h2)).mono fun x K1 ⟨⟨us1, a1, a2⟩, a3, a4⟩ => ?_
  simp
  refine (specDeadAt_ok f us1 x K1 hm hmm a1.look).mono fun x K2 ⟨w0, b1, ⟨uw, b2⟩, b4⟩ => ?_
  subst b1
  have f2 : Fr K K2 := a4.trans b4
  simp
  refine (toBlockS_ok f ws x0 K2 hm hmm (hv.fr (h2.trans f2))).mono fun y0 K3 ⟨⟨us3, c1, c2⟩, c3, c4⟩ => ?_
  have f3 := f2.trans c4
  simp
  refine (implDeadAt_ok f us3 y0 K3 hm hmm c1.look).mono fun x K4 ⟨g0, d1, ⟨ug, d2, d5⟩, d3, d4⟩ => ?_
  subst d1
  have f4 := f3.trans d4
  have w4 := b2.fr (c4.trans d4)
  simp
  refine (eqIntSS_ok _ _ ug uw g0 w0 K4 (by omega) (fun t ht => by have := hfew2 t ht; omega) d2.look w4).mono fun y K' ⟨e1, e2⟩ => ?_
  subst e1 e2
  simp [tab]
  refine (toBlockS_ok f ws x0 K' hm hmm (hv.fr (h2.trans f4))).mono fun x5 K5 ⟨⟨us5, p1, p2⟩, p3, p4⟩ => ?_
  simp
  refine (eqBlockS_ok f f us3 us5 y0 x5 K5 hm hmm ((c1.look.fr d4).fr p4) p1.look).mono fun y K6 ⟨q1, q2⟩ => ?_
  subst q1
  have f6 := f4.trans (p4.trans q2)
  have x6 : FOwn K6 y0 f us3 := c1.fr (d4.trans (p4.trans q2))
  simp [tab]
  refine (markBlockS_ok f us3 y0 K6 hm hmm x6).mono fun y K7 ⟨r1, r2, r3⟩ => ?_
  subst r1
  have hxl : ∀ b, (y0.at b ∨ ∃ u ∈ us3, u.at b) → K2.length ≤ b ∧ b < K3.length := fun b hb => ⟨hb.elim (c3 b) (fun ⟨u, hu, h⟩ => c2 u hu b h), c1.lt b hb⟩
  have hwl : ∀ b, (w0.at b ∨ ∃ u ∈ uw, u.at b) → b < K2.length := b2.lt
  have hgl : ∀ b, (g0.at b ∨ ∃ u ∈ ug, u.at b) → K3.length ≤ b := fun b hb => hb.elim (d3 b) fun ⟨u, hu, h⟩ => d5 u hu b h
  have w7 := (w4.fr (p4.trans q2)).keeps r3 fun b hb hx => by have := hxl b hx; have := hwl b hb; omega
  have g7 := (d2.fr (p4.trans q2)).keeps r3 fun b hb hx => by have := hxl b hx; have := hgl b hb; omega
  have f7 : Fr K K7 := Fr.then f6 r3 fun b hb => by have := hxl b hb; have := f2.1; omega
  have hbig := wB_le (f.map fun t => t.code.length) (by simpa using hmm)
  have hk : ¬ (1 : Int) + (wB (f.map fun t => t.code.length) : Nat) < 0 := by omega
  simp [tab, hk]
  refine (eqIntSS_ok _ _ ug uw g0 w0 K7 (by omega) (fun t ht => by have := hfew2 t ht; omega) g7.look w7).mono fun y K' ⟨e1, e2⟩ => ?_
  subst e1 e2
  simp [tab]
  refine (markIntSS_ok _ ug g0 K' (by omega) (fun t ht => by have := hfew2 t ht; omega) g7).mono fun y K8 ⟨s1, s2, s3⟩ => ?_
  subst s1
  have w8 := w7.keeps s3 fun b hb ⟨u, hu, h⟩ => by have := hwl b hb; have := hgl b (.inr ⟨u, hu, h⟩); have := c4.1; omega
  have f8 : Fr K K8 := Fr.then f7 s3 fun b ⟨u, hu, h⟩ => by have := hgl b (.inr ⟨u, hu, h⟩); have := f3.1; omega
  simp
  refine (heldIntSS_ok _ ug g0 K8 (by simpa using Nat.le_trans hfew (by decide)) (fun n hn => by
    simp at hn
    obtain ⟨L, hL, rfl⟩ := hn
    have := hfew2 L hL
    omega) s2).mono fun y K' ⟨e1, e2⟩ => ?_
  subst e1 e2
  have hneg : ¬ (1 : Int) + (((deadRes f).1.map List.length).sum : Nat) < 0 := by omega
  simp [tab, hneg]
  refine (toBlockS_ok f ws x0 K' hm hmm (hv.fr (h2.trans f8))).mono fun x9 K9 ⟨⟨us9, t1, t2⟩, t3, t4⟩ => ?_
  simp
  refine (implDeadAt_ok f us9 x9 K9 hm hmm t1.look).mono fun x K10 ⟨h0', u1, ⟨uh, u2, u5⟩, u3, u4⟩ => ?_
  subst u1
  simp
  refine (eqIntSS_ok _ _ uh uw h0' w0 K10 (by omega) (fun t ht => by have := hfew2 t ht; omega) u2.look (w8.fr (t4.trans u4))).mono fun y K'' ⟨e1, e2⟩ => ?_
  subst e1 e2
  simp [tab]
  refine (heldIntSS_ok _ ug g0 K'' (by simpa using Nat.le_trans hfew (by decide)) (fun n hn => by
    simp at hn
    obtain ⟨L, hL, rfl⟩ := hn
    have := hfew2 L hL
    omega) (s2.fr (t4.trans u4))).mono fun y K' ⟨e1, e2⟩ => ?_
  subst e1 e2
  simp [tab, hneg]
end Go.Proofs.Ytdbnokeegocpbaa.Am
