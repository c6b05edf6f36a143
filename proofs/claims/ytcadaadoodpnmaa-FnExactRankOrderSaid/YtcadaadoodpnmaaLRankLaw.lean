/- The law of RankOrder. No condition. -/
import Derived.Test.YtcadaadoodpnmaaLRankSpec
namespace Go.Proofs.Ytcadaadoodpnmaa.Am
open Go Go.RowKit
set_option linter.unusedSimpArgs false
set_option linter.unusedVariables false

theorem ores_length (l : List Task) : (ores l).1.length ≤ l.length := by
  unfold ores
  split <;> simp [ord_length]
set_option maxRecDepth 100000 in
theorem order_law (l : List Task) (ws : List AV) (v : AV) (H : Hp) (hm : l.length ≤ 140737488355328) (hmm : ∀ t ∈ l, t.after.length ≤ 140737488355328) (hv : TRow H v l ws) : T Try.prog 10 [v] H (fun r K => r = .bool true) := by
  refine T.by tabOk Try.func10 (by kernel_rfl) rfl _ (by simp [Try.f10]) H _ ?_
  simp [Try.f10]
  refine (szTaskS_ok l ws v H hm hmm hv).mono fun r K ⟨z, h1, h2, h3⟩ => ?_
  subst h1
  by_cases hz : z < 0
  · simp [tab, hz]
  simp [tab, hz]
  obtain ⟨hm, hmm⟩ := h3 (by omega)
  have hlen := ores_length l
  refine (toTaskS_ok l ws v K hm hmm (hv.fr h2)).mono fun x K1 ⟨⟨us1, a1, a2⟩, a3, a4⟩ => ?_
  simp
  refine (specOrder_ok l us1 x K1 hm hmm a1.look).mono fun x K2 ⟨w0, b1, b2, b3, b4⟩ => ?_
  subst b1
  have f2 : Fr H K2 := (h2.trans a4).trans b4
  simp
  refine (toTaskS_ok l ws v K2 hm hmm (hv.fr f2)).mono fun x0 K3 ⟨⟨us3, c1, c2⟩, c3, c4⟩ => ?_
  have f3 := f2.trans c4
  simp
  refine (implOrder_ok l us3 x0 K3 hm hmm c1.look).mono fun x K4 ⟨g0, d1, d2, d3, d4⟩ => ?_
  subst d1
  have f4 := f3.trans d4
  have w4 : Own 1 K4 w0 (ints (ores l).1) := b2.fr (c4.trans d4)
  simp
  refine (eqIntS_ok _ _ g0 w0 K4 (by omega) d2.row w4.row).mono fun y K' ⟨e1, e2⟩ => ?_
  subst e1 e2
  simp [tab]
  refine (toTaskS_ok l ws v K' hm hmm (hv.fr f4)).mono fun x5 K5 ⟨⟨us5, p1, p2⟩, p3, p4⟩ => ?_
  simp
  refine (eqTaskS_ok l l us3 us5 x0 x5 K5 hm hmm (c1.look.fr (d4.trans p4)) p1.look).mono fun y K6 ⟨q1, q2⟩ => ?_
  subst q1
  have f6 := (f4.trans p4).trans q2
  have x6 : TOwn K6 x0 l us3 := c1.fr ((d4.trans p4).trans q2)
  simp [tab]
  refine (markTaskS_ok l us3 x0 K6 hm hmm x6).mono fun y K7 ⟨⟨k, r1, r2⟩, r3⟩ => ?_
  subst r1
  have hxl : ∀ b, (x0.at b ∨ ∃ u ∈ us3, u.at b) → K2.length ≤ b ∧ b < K3.length := fun b hb => ⟨hb.elim (c3 b) (fun ⟨u, hu, h⟩ => c2 u hu b h), c1.lt b hb⟩
  have hwl : ∀ b, w0.at b → b < K2.length := b2.lt
  have hgl : ∀ b, g0.at b → K3.length ≤ b := d3
  have w7 : Own 1 K7 w0 (ints (ores l).1) := (w4.fr (p4.trans q2)).keeps r3 fun b hb hx => by have := hxl b hx; have := hwl b hb; omega
  have g7 : Own 1 K7 g0 (ints (ores l).1) := (d2.fr (p4.trans q2)).keeps r3 fun b hb hx => by have := hxl b hx; have := hgl b hb; omega
  have f7 : Fr H K7 := Fr.then f6 r3 fun b hb => by have := hxl b hb; have := f2.1; omega
  have hk : ¬ k < 0 := by omega
  simp [tab, hk]
  refine (eqIntS_ok _ _ g0 w0 K7 (by omega) g7.row w7.row).mono fun y K' ⟨e1, e2⟩ => ?_
  subst e1 e2
  simp [tab]
  refine (markIntS_ok _ g0 1 K' (by omega) (by simp; omega) g7).mono fun y K8 ⟨s1, s2, s3, s4⟩ => ?_
  subst s1
  have w8 : Own 1 K8 w0 (ints (ores l).1) := w7.keeps s3 fun b hb hx => by have := hwl b hb; have := hgl b hx; have := c4.1; omega
  have f8 : Fr H K8 := Fr.then f7 s3 fun b hb => by have := hgl b hb; have := f3.1; omega
  simp at s2
  simp
  refine (heldIntS_ok _ g0 1 K8 (by omega) (by omega) s2.row).mono fun y K' ⟨e1, e2⟩ => ?_
  subst e1 e2
  have hneg : ¬ (1 : Int) + ((ores l).1.length : Int) < 0 := by omega
  simp [tab, hneg]
  refine (toTaskS_ok l ws v K' hm hmm (hv.fr f8)).mono fun x9 K9 ⟨⟨us9, t1, t2⟩, t3, t4⟩ => ?_
  simp
  refine (implOrder_ok l us9 x9 K9 hm hmm t1.look).mono fun x K10 ⟨h0, u1, u2, u3, u4⟩ => ?_
  subst u1
  simp
  refine (eqIntS_ok _ _ h0 w0 K10 (by omega) u2.row (w8.fr (t4.trans u4)).row).mono fun y K'' ⟨e1, e2⟩ => ?_
  subst e1 e2
  simp [tab]
  refine (heldIntS_ok _ g0 1 K'' (by omega) (by omega) (s2.fr (t4.trans u4)).row).mono fun y K' ⟨e1, e2⟩ => ?_
  subst e1 e2
  simp [tab, hneg]
theorem law_in (H : Hp) (x0 : AV) (h0 : SSl 2 32 (SPair (SInt .i64) (SSl 1 8 (SInt .i64))) H [x0]) : T Try.prog 10 [x0] H (fun r K => r = .bool true) := by
  obtain ⟨l, us, h1, h2, h3⟩ := tasks_open H x0 h0
  exact order_law l us x0 H h2 h3 h1
end Go.Proofs.Ytcadaadoodpnmaa.Am
