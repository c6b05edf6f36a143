/- The law of RanksOf. No condition. -/
import Derived.Test.YtcadaadoodpnmaaLRanks
namespace Go.Proofs.Ytcadaadoodpnmaa.Am
open Go Go.RowKit
set_option linter.unusedSimpArgs false
set_option linter.unusedVariables false

theorem TOwn.lt {K : Hp} {v : AV} {l : List Task} {us : List AV} (h : TOwn K v l us) : ∀ b, (v.at b ∨ ∃ u ∈ us, u.at b) → b < K.length := by
  rintro b (hb | ⟨u, hu, hb⟩)
  · exact h.row.lt b hb
  · obtain ⟨i, hi⟩ := List.mem_iff_getElem?.1 hu
    have hil : i < l.length := by rw [← h.len]; exact (List.getElem?_eq_some_iff.1 hi).1
    exact (h.inner i l[i] u (List.getElem?_eq_getElem hil) hi).lt b hb
open Classical in
noncomputable def ranksRes (l : List Task) : List Int × Bool := if GoodT l then (rks 0 l, true) else ([], false)
theorem specRanksOf_ok (l : List Task) (us : List AV) (v : AV) (H : Hp) (hm : l.length ≤ 1048576) (hmm : ∀ t ∈ l, t.after.length ≤ 1048576) (hv : TRow H v l us) : T Try.prog 26 [v] H (fun r K => ∃ out, r = .tup [out, .bool (ranksRes l).2] ∧ Own 1 K out (ints (ranksRes l).1) ∧ Fresh H.length out ∧ Fr H K) := by
  refine T.by tabOk Try.func26 (by kernel_rfl) rfl _ (by simp [Try.f26]) H _ ?_
  simp [Try.f26]
  refine (specGood_ok l us v H hm hmm hv).mono fun r K ⟨⟨t, h1, h2⟩, h3⟩ => ?_
  subst h1
  by_cases hg : GoodT l
  · obtain rfl := h2.2 hg
    simp
    refine (l10Ranks_ok l us v K hg hmm (hv.fr h3)).mono fun r K1 ⟨e1, e2, e3⟩ => ?_
    simp [ranksRes, hg]
    exact ⟨e1, e2.mono h3.1, h3.trans e3⟩
  · have : t = false := by
      cases t with
      | false => rfl
      | true => exact absurd (h2.1 rfl) hg
    subst this
    simp [ranksRes, hg]
    exact ⟨Own.nil 1 K, Fresh.nil _, h3⟩
theorem implRanksOf_ok (l : List Task) (us : List AV) (v : AV) (H : Hp) (hm : l.length ≤ 1048576) (hmm : ∀ t ∈ l, t.after.length ≤ 1048576) (hv : TRow H v l us) : T Try.prog 27 [v] H (fun r K => ∃ out, r = .tup [out, .bool (ranksRes l).2] ∧ Own 1 K out (ints (ranksRes l).1) ∧ Fresh H.length out ∧ Fr H K) := by
  refine T.by tabOk Try.func27 (by kernel_rfl) rfl _ (by simp [Try.f27]) H _ ?_
  simp [Try.f27]
  refine (implGood0_ok l us v H hm hmm hv).mono fun r K ⟨⟨t, h1, h2⟩, h3⟩ => ?_
  subst h1
  by_cases hg : GoodT l
  · obtain rfl := h2.2 hg
    simp
    refine (ranksOf_ok l us v K hg hmm (hv.fr h3)).mono fun r K1 ⟨e1, e2, e3⟩ => ?_
    simp [ranksRes, hg]
    exact ⟨e1, e2.mono h3.1, h3.trans e3⟩
  · have : t = false := by
      cases t with
      | false => rfl
      | true => exact absurd (h2.1 rfl) hg
    subst this
    simp [ranksRes, hg]
    exact ⟨Own.nil 1 K, Fresh.nil _, h3⟩
theorem ranksRes_length (l : List Task) : (ranksRes l).1.length ≤ l.length := by
  unfold ranksRes
  split <;> simp
set_option maxRecDepth 100000 in
theorem ranks_law (l : List Task) (ws : List AV) (v : AV) (H : Hp) (hm : l.length ≤ 140737488355328) (hmm : ∀ t ∈ l, t.after.length ≤ 140737488355328) (hv : TRow H v l ws) : T Try.prog 7 [v] H (fun r K => r = .bool true) := by
  refine T.by tabOk Try.func7 (by kernel_rfl) rfl _ (by simp [Try.f7]) H _ ?_
  simp [Try.f7]
  refine (szTaskS_ok l ws v H hm hmm hv).mono fun r K ⟨z, h1, h2, h3⟩ => ?_
  subst h1
  by_cases hz : z < 0
  · simp [tab, hz]
  simp [tab, hz]
  obtain ⟨hm, hmm⟩ := h3 (by omega)
  have hlen := ranksRes_length l
  refine (toTaskS_ok l ws v K hm hmm (hv.fr h2)).mono fun x K1 ⟨⟨us1, a1, a2⟩, a3, a4⟩ => ?_
  simp
  refine (specRanksOf_ok l us1 x K1 hm hmm a1.look).mono fun x K2 ⟨w0, b1, b2, b3, b4⟩ => ?_
  subst b1
  have f2 : Fr H K2 := (h2.trans a4).trans b4
  simp
  refine (toTaskS_ok l ws v K2 hm hmm (hv.fr f2)).mono fun x0 K3 ⟨⟨us3, c1, c2⟩, c3, c4⟩ => ?_
  have f3 := f2.trans c4
  simp
  refine (implRanksOf_ok l us3 x0 K3 hm hmm c1.look).mono fun x K4 ⟨g0, d1, d2, d3, d4⟩ => ?_
  subst d1
  have f4 := f3.trans d4
  have w4 : Own 1 K4 w0 (ints (ranksRes l).1) := b2.fr (c4.trans d4)
  simp
  refine (eqIntS_ok _ _ g0 w0 K4 (by omega) d2.row w4.row).mono fun y K' ⟨e1, e2⟩ => ?_
  subst e1 e2
  simp [tab]
  refine (toTaskS_ok l ws v K' hm hmm (hv.fr f4)).mono fun x5 K5 ⟨⟨us5, p1, p2⟩, p3, p4⟩ => ?_
  simp
  refine (eqTaskS_ok l l us3 us5 x0 x5 K5 hm hmm (c1.look.fr (d4.trans p4)) p1.look).mono fun y K6 ⟨q1, q2⟩ => ?_
  subst q1
  have f6 := (f4.trans p4).trans q2
  have x6 : TOwn K6 x0 l us3 := c1.fr ((d4.trans p4).trans q2)
  simp [tab]
  refine (markTaskS_ok l us3 x0 K6 hm hmm x6).mono fun y K7 ⟨⟨k, r1, r2⟩, r3⟩ => ?_
  subst r1
  have hxl : ∀ b, (x0.at b ∨ ∃ u ∈ us3, u.at b) → K2.length ≤ b ∧ b < K3.length := fun b hb => ⟨hb.elim (c3 b) (fun ⟨u, hu, h⟩ => c2 u hu b h), c1.lt b hb⟩
  have hwl : ∀ b, w0.at b → b < K2.length := b2.lt
  have hgl : ∀ b, g0.at b → K3.length ≤ b := d3
  have w7 : Own 1 K7 w0 (ints (ranksRes l).1) := (w4.fr (p4.trans q2)).keeps r3 fun b hb hx => by have := hxl b hx; have := hwl b hb; omega
  have g7 : Own 1 K7 g0 (ints (ranksRes l).1) := (d2.fr (p4.trans q2)).keeps r3 fun b hb hx => by have := hxl b hx; have := hgl b hb; omega
  have f7 : Fr H K7 := Fr.then f6 r3 fun b hb => by have := hxl b hb; have := f2.1; omega
  have hk : ¬ k < 0 := by omega
  simp [tab, hk]
  refine (eqIntS_ok _ _ g0 w0 K7 (by omega) g7.row w7.row).mono fun y K' ⟨e1, e2⟩ => ?_
  subst e1 e2
  simp [tab]
  refine (markIntS_ok _ g0 1 K' (by omega) (by simp; omega) g7).mono fun y K8 ⟨s1, s2, s3, s4⟩ => ?_
  subst s1
  have w8 : Own 1 K8 w0 (ints (ranksRes l).1) := w7.keeps s3 fun b hb hx => by have := hwl b hb; have := hgl b hx; have := c4.1; omega
  have f8 : Fr H K8 := Fr.then f7 s3 fun b hb => by have := hgl b hb; have := f3.1; omega
  simp at s2
  simp
  refine (heldIntS_ok _ g0 1 K8 (by omega) (by omega) s2.row).mono fun y K' ⟨e1, e2⟩ => ?_
  subst e1 e2
  have hneg : ¬ (1 : Int) + ((ranksRes l).1.length : Int) < 0 := by omega
  simp [tab, hneg]
  refine (toTaskS_ok l ws v K' hm hmm (hv.fr f8)).mono fun x9 K9 ⟨⟨us9, t1, t2⟩, t3, t4⟩ => ?_
  simp
  refine (implRanksOf_ok l us9 x9 K9 hm hmm t1.look).mono fun x K10 ⟨h0, u1, u2, u3, u4⟩ => ?_
  subst u1
  simp
  refine (eqIntS_ok _ _ h0 w0 K10 (by omega) u2.row (w8.fr (t4.trans u4)).row).mono fun y K'' ⟨e1, e2⟩ => ?_
  subst e1 e2
  simp [tab]
  refine (heldIntS_ok _ g0 1 K'' (by omega) (by omega) (s2.fr (t4.trans u4)).row).mono fun y K' ⟨e1, e2⟩ => ?_
  subst e1 e2
  simp [tab, hneg]
end Go.Proofs.Ytcadaadoodpnmaa.Am
