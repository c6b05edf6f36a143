/- The law of DropLost. No condition. -/
import Derived.Test.YtdbnokeegocpbaaLLostSpec
import Derived.Test.YtdbnokeegocpbaaLLostImpl
import Derived.Test.YtdbnokeegocpbaaLBlocks
namespace Go.Proofs.Ytdbnokeegocpbaa.Am
open Go Go.RowKit
set_option linter.unusedSimpArgs false
set_option linter.unusedVariables false

set_option maxHeartbeats 1000000 in
theorem law_in (H : Hp) (x0 : AV) (h0 : SSl 4 48 (SPair (SSl 5 40 (SPair (SInt .i64) (SPair (SInt .i64) (SPair (SInt .i64) (SPair (SInt .i64) (SInt .i64)))))) (SPair (SInt .i64) (SPair (SInt .i64) (SInt .i64)))) H [x0]) : T Try.prog 3 [x0] H (fun r K => r = .bool true) := by
  obtain ⟨f, ws, hv, hm, hmm⟩ := blocks_open H x0 h0
  refine T.by tabOk Try.func3 (by kernel_rfl) rfl _ (by simp [Try.f3]) H _ ?_
  simp [Try.f3]
  refine (szBlockS_ok f ws x0 H hm hmm hv).mono fun r K ⟨z, h1, h2, h3⟩ => ?_
  subst h1
  by_cases hz : z < 0
  · simp [tab, hz]
  simp [tab, hz]
  obtain ⟨hm, hmm⟩ := h3 (by omega)
  obtain ⟨hfew, hfew2, hfew8⟩ := lostRes_few f
  have hfew3 : (lostRes f).1.length ≤ 1048576 := by omega
  have hfew4 : ∀ t ∈ (lostRes f).1, t.code.length ≤ 1048576 := fun t ht => by have := hfew2 t ht; omega
  have hsum := wB_le ((lostRes f).1.map fun t => t.code.length) (fun n hn => by
    simp at hn
    obtain ⟨L, hL, rfl⟩ := hn
    exact hfew4 L hL)
  simp only [List.length_map] at hsum
  refine (toBlockS_ok f ws x0 K hm hmm (hv.fr h2)).mono fun x K1 ⟨⟨us1, a1, a2⟩, a3, a4⟩ => ?_
  simp
  refine (specLost_ok f us1 x K1 hm hmm a1.look).mono fun x K2 ⟨w0, w1, b1, ⟨uw, b2⟩, bn, b4⟩ => ?_
  subst b1
  have f2 : Fr K K2 := a4.trans b4
  simp
  refine (toBlockS_ok f ws x0 K2 hm hmm (hv.fr (h2.trans f2))).mono fun y0 K3 ⟨⟨us3, c1, c2⟩, c3, c4⟩ => ?_
  have f3 := f2.trans c4
  simp
  refine (implLost_ok f us3 y0 K3 hm hmm c1.look).mono fun x K4 ⟨g0, g1, ug, d1, d2, dn, da, dnf, d4⟩ => ?_
  subst d1
  have f4 := f3.trans d4
  have w4 := b2.fr (c4.trans d4)
  have wn4 := bn.fr (c4.trans d4)
  simp
  refine (eqBlockS_ok _ _ ug uw g0 w0 K4 hfew3 hfew4 d2.look w4).mono fun y K4' ⟨e1, e2⟩ => ?_
  subst e1
  simp [tab]
  refine (eqIntS_ok _ _ g1 w1 K4' (by omega) (dn.fr e2).row (wn4.fr e2)).mono fun y K' ⟨e1, e2'⟩ => ?_
  subst e1
  have e2 : Fr K4 K' := by rw [e2']; exact e2
  simp [tab]
  refine (toBlockS_ok f ws x0 K' hm hmm (hv.fr (h2.trans (f4.trans e2)))).mono fun x5 K5 ⟨⟨us5, p1, p2⟩, p3, p4⟩ => ?_
  simp
  have p4 := e2.trans p4
  refine (eqBlockS_ok f f us3 us5 y0 x5 K5 hm hmm ((c1.look.fr d4).fr p4) p1.look).mono fun y K6 ⟨q1, q2⟩ => ?_
  subst q1
  have f6 := f4.trans (p4.trans q2)
  have x6 : FOwn K6 y0 f us3 := c1.fr (d4.trans (p4.trans q2))
  simp [tab]
  refine (markBlockS_ok f us3 y0 K6 hm hmm x6).mono fun y K7 ⟨r1, r2, r3⟩ => ?_
  subst r1
  have hxl : ∀ b, (y0.at b ∨ ∃ u ∈ us3, u.at b) → K2.length ≤ b ∧ b < K3.length := fun b hb => ⟨hb.elim (c3 b) (fun ⟨u, hu, h⟩ => c2 u hu b h), c1.lt b hb⟩
  have hwn : ∀ b, w1.at b → b < K2.length := bn.lt
  have hgn : ∀ b, g1.at b → K3.length ≤ b := dnf
  have hwl : ∀ b, (w0.at b ∨ ∃ u ∈ uw, u.at b) → b < K2.length := b2.lt
  have hgl : ∀ b, (g0.at b ∨ ∃ u ∈ ug, u.at b) → K3.length ≤ b := fun b hb => (da b hb).1
  have w7 := (w4.fr (p4.trans q2)).keeps r3 fun b hb hx => by have := hxl b hx; have := hwl b hb; omega
  have g7 := (d2.fr (p4.trans q2)).keeps r3 fun b hb hx => by have := hxl b hx; have := hgl b hb; omega
  have wn7 := (wn4.fr (p4.trans q2)).keeps r3 fun b hb hx => by have := hxl b hx; have := hwn b hb; omega
  have gn7 := (dn.fr (p4.trans q2)).keeps r3 fun b hb hx => by have := hxl b hx; have := hgn b hb; omega
  have f7 : Fr K K7 := Fr.then f6 r3 fun b hb => by have := hxl b hb; have := f2.1; omega
  have hbig := wB_le (f.map fun t => t.code.length) (by simpa using hmm)
  have hk : ¬ (1 : Int) + (wB (f.map fun t => t.code.length) : Nat) < 0 := by omega
  simp [tab, hk]
  refine (eqBlockS_ok _ _ ug uw g0 w0 K7 hfew3 hfew4 g7.look w7).mono fun y K7' ⟨e1, e3⟩ => ?_
  subst e1
  simp [tab]
  refine (eqIntS_ok _ _ g1 w1 K7' (by omega) (gn7.fr e3).row (wn7.fr e3)).mono fun y K' ⟨e1, e3'⟩ => ?_
  subst e1
  have e3 : Fr K7 K' := by rw [e3']; exact e3
  simp [tab]
  refine (markBlockS_ok _ ug g0 K' hfew3 hfew4 (g7.fr e3)).mono fun y K8a ⟨s1, s2, s3⟩ => ?_
  subst s1
  have w8 := (w7.fr e3).keeps s3 fun b hb hx => by have := hwl b hb; have := hgl b hx; have := c4.1; omega
  have wn8 := (wn7.fr e3).keeps s3 fun b hb hx => by have := hwn b hb; have := hgl b hx; have := c4.1; omega
  have gn8 := (gn7.fr e3).keeps s3 fun b hb hx => (da b hx).2 hb
  have f8a : Fr K K8a := Fr.then (f7.trans e3) s3 fun b hx => by have := hgl b hx; have := f3.1; omega
  have hmm5 : ∀ n ∈ (lostRes f).1.map fun t => t.code.length, n ≤ 1048576 := fun n hn => by
    simp at hn
    obtain ⟨L, hL, rfl⟩ := hn
    exact hfew4 L hL
  have hneg : ¬ (1 : Int) + (wB ((lostRes f).1.map fun t => t.code.length) : Nat) < 0 := by omega
  have hneg2 : ¬ (1 : Int) + (wB ((lostRes f).1.map fun t => t.code.length) : Nat) + (lostRes f).2.1.length < 0 := by omega
  simp
  refine (markIntS_ok (ints (lostRes f).2.1) g1 _ K8a (by omega) (by simp; omega) gn8).mono fun y K8 ⟨s5, s6, s7, _⟩ => ?_
  subst s5
  simp only [ints_length] at s6
  have w9 := w8.keeps s7 fun b hb hx => by have := hwl b hb; have := hgn b hx; have := c4.1; omega
  have wn9 := wn8.keeps s7 fun b hb hx => by have := hwn b hb; have := hgn b hx; have := c4.1; omega
  have g9 := s2.keeps s7 fun b hb hx => (da b hb).2 hx
  have f8 : Fr K K8 := Fr.then f8a s7 fun b hx => by have := hgn b hx; have := f3.1; omega
  simp
  refine (heldBlockS_ok _ ug g0 K8 (by simpa using hfew3) hmm5 g9.look).mono fun y K' ⟨e1, e4⟩ => ?_
  subst e1 e4
  simp [tab, hneg]
  refine (heldIntS_ok (lostRes f).2.1.length g1 _ K' (by omega) (by omega) s6.row).mono fun y K'' ⟨e1, e4⟩ => ?_
  subst e1 e4
  simp [tab, hneg2]
  refine (toBlockS_ok f ws x0 K'' hm hmm (hv.fr (h2.trans f8))).mono fun x9 K9 ⟨⟨us9, t1, t2⟩, t3, t4⟩ => ?_
  simp
  refine (implLost_ok f us9 x9 K9 hm hmm t1.look).mono fun x K10 ⟨h0', h1', uh, u1, u2, un, ua, unf, u4⟩ => ?_
  subst u1
  simp
  refine (eqBlockS_ok _ _ uh uw h0' w0 K10 hfew3 hfew4 u2.look (w9.fr (t4.trans u4))).mono fun y K11 ⟨e1, e5⟩ => ?_
  subst e1
  simp [tab]
  refine (eqIntS_ok _ _ h1' w1 K11 (by omega) (un.fr e5).row (wn9.fr (t4.trans (u4.trans e5)))).mono fun y K12 ⟨e1, e6⟩ => ?_
  subst e1
  simp [tab]
  have f12 : Fr K'' K12 := by rw [e6]; exact t4.trans (u4.trans e5)
  refine (heldBlockS_ok _ ug g0 K12 (by simpa using hfew3) hmm5 (g9.look.fr f12)).mono fun y K' ⟨e1, e7⟩ => ?_
  subst e1 e7
  simp [tab, hneg]
  refine (heldIntS_ok (lostRes f).2.1.length g1 _ K' (by omega) (by omega) (s6.row.fr f12)).mono fun y K'' ⟨e1, e8⟩ => ?_
  subst e1 e8
  simp [tab, hneg2]
end Go.Proofs.Ytdbnokeegocpbaa.Am
