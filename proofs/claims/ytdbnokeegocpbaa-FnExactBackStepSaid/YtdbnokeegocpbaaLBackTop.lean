/- The law of BackStep. No condition. -/
import Derived.Test.YtdbnokeegocpbaaLBack
namespace Go.Proofs.Ytdbnokeegocpbaa.Am
open Go Go.RowKit
set_option linter.unusedSimpArgs false
set_option linter.unusedVariables false

open Classical in
noncomputable def backRes (l : List Ins) (L : List Int) : List Int × Bool := if GoodC l ∧ GoodN L then (setN (codeS l false (· ∈ L)), true) else ([], false)
theorem backRes_len (l : List Ins) (L : List Int) : (backRes l L).1.length ≤ 8 := by
  unfold backRes
  split
  · exact setN_len _
  · simp
theorem specBackStep_ok (l : List Ins) (L : List Int) (w v : AV) (H : Hp) (hm : l.length ≤ 1048576) (hmL : L.length ≤ 1048576) (hw : Row 5 H w (l.map Ins.enc)) (hv : Row 1 H v (ints L)) : T Try.prog 24 [w, v] H (fun r K => ∃ out, r = .tup [out, .bool (backRes l L).2] ∧ Row 1 K out (ints (backRes l L).1) ∧ Fresh H.length out ∧ Fr H K) := by
  refine T.by tabOk Try.func24 (by kernel_rfl) rfl _ (by simp [Try.f24]) H _ ?_
  simp [Try.f24]
  refine (goodCode_ok l w H hm hw).mono fun r K ⟨⟨t, h1, h2⟩, h3⟩ => ?_
  subst h1
  cases t with
  | false =>
    have hg : ¬ GoodC l := fun h => by cases h2.2 h
    simp [tab, backRes, hg]
    exact ⟨(Own.nil 1 K).row, Fresh.nil _, h3⟩
  | true =>
    have hg := h2.1 rfl
    simp [tab]
    refine (l7Names_ok L v K hmL (hv.fr h3)).mono fun r K1 ⟨⟨t, g1, g2⟩, g3⟩ => ?_
    subst g1 g3
    cases t with
    | false =>
      have hgn : ¬ GoodN L := fun h => by cases g2.2 h
      simp [tab, backRes, hg, hgn]
      exact ⟨(Own.nil 1 _).row, Fresh.nil _, h3⟩
    | true =>
      have hgn := g2.1 rfl
      have hnew := Own.new (sz := 1) (K := K1) (es := ints []) (ints_one _)
      simp [ints] at hnew
      obtain ⟨u, K', a1, a2, a3, a4⟩ := Own.join (es := []) (by simpa [ints] using hnew) ((hv.fr h3).fr (Fr.app K1 [some ⟨1, true, []⟩])) (by simp; omega)
      have f1 : Fr K1 K' := Fr.then (Fr.app K1 _) a3 (by intro b hb; cases hb; exact Nat.le_refl _)
      simp [tab, buildSliceA, zerosA, fillA, over, a1]
      refine (l7Code_ok l w L u false K' hg.2 hm (hw.fr (h3.trans f1)) hgn (by simpa using a2.row)).mono fun x K2 ⟨L1, y1, y2, y3, y4, y5⟩ => ?_
      simp [tab, backRes, hg, hgn]
      rw [← setN_eq' y2 y3]
      refine ⟨y1, fun b hb => (y4 b hb).elim (fun h => (a4 b h).elim (fun h => by cases h; exact h3.1) fun h => ?_) fun h => ?_, h3.trans (f1.trans y5)⟩
      · have := h3.1; simp at h; omega
      · have := h3.1; have := f1.1; omega
theorem implBackStep_ok (l : List Ins) (L : List Int) (w v : AV) (H : Hp) (hm : l.length ≤ 1048576) (hmL : L.length ≤ 1048576) (hw : Row 5 H w (l.map Ins.enc)) (hv : Row 1 H v (ints L)) : T Try.prog 27 [w, v] H (fun r K => ∃ out, r = .tup [out, .bool (backRes l L).2] ∧ Own 1 K out (ints (backRes l L).1) ∧ Fresh H.length out ∧ Fr H K) := by
  refine T.by tabOk Try.func27 (by kernel_rfl) rfl _ (by simp [Try.f27]) H _ ?_
  simp [Try.f27]
  refine (isCode_ok l w H hm hw).mono fun r K ⟨⟨t, h1, h2⟩, h3⟩ => ?_
  subst h1
  cases t with
  | false =>
    have hg : ¬ GoodC l := fun h => by cases h2.2 h
    simp [tab, backRes, hg]
    exact ⟨Own.nil 1 K, Fresh.nil _, h3⟩
  | true =>
    have hg := h2.1 rfl
    simp [tab]
    refine (areNames_ok L v K hmL (hv.fr h3)).mono fun r K1 ⟨⟨t, g1, g2⟩, g3⟩ => ?_
    subst g1 g3
    cases t with
    | false =>
      have hgn : ¬ GoodN L := fun h => by cases g2.2 h
      simp [tab, backRes, hg, hgn]
      exact ⟨Own.nil 1 _, Fresh.nil _, h3⟩
    | true =>
      have hgn := g2.1 rfl
      simp [tab]
      refine (setOf_ok L v K1 hmL hgn.1 (hv.fr h3)).mono fun r K2 ⟨⟨c, c1, c2⟩, c3⟩ => ?_
      subst c1
      simp [tab]
      refine (backStep_ok l w c _ true K2 hg.2 hm (hw.fr (h3.trans c3)) c2).mono fun r K3 ⟨⟨c', d1, d2⟩, d3⟩ => ?_
      subst d1
      simp [tab]
      refine (listOf_ok c' _ K3 d2).mono fun x K4 ⟨⟨L1, y1, y2, y3⟩, y4, y5⟩ => ?_
      simp [tab, backRes, hg, hgn]
      have y3 : ∀ n, n ∈ L1 ↔ Nm n ∧ codeS l false (· ∈ L) n := y3
      rw [← setN_eq y2 y3]
      exact ⟨y1, y4.mono (by have := h3.1; have := c3.1; have := d3.1; omega), h3.trans (c3.trans (d3.trans y5))⟩
theorem law_in (H : Hp) (x0 x1 : AV) (h0 : SSl 5 40 (SPair (SInt .i64) (SPair (SInt .i64) (SPair (SInt .i64) (SPair (SInt .i64) (SInt .i64))))) H [x0]) (h1 : SSl 1 8 (SInt .i64) H [x1]) : T Try.prog 4 [x0, x1] H (fun r K => r = .bool true) := by
  obtain ⟨l, hw, hm⟩ := inss_open H x0 h0
  obtain ⟨L, hv, hmL⟩ := ints_open H x1 h1
  have hlen := hv.len 3
  refine T.by tabOk Try.func4 (by kernel_rfl) rfl _ (by simp [Try.f4]) H _ ?_
  by_cases hbig : (1048576 : Int) < L.length
  · simp [Try.f4, tab, hlen, hbig]
  simp [Try.f4, tab, hlen, hbig]
  refine (szInstrS_ok l x0 H hm hw).mono fun r K ⟨z1, z2⟩ => ?_
  subst z1 z2
  by_cases hz : 1048576 < l.length
  · simp [tab, hz]
  have hmL : L.length ≤ 1048576 := by omega
  have hm : l.length ≤ 1048576 := by omega
  have hz' : (l.length : Int) ≤ 1048576 := by omega
  simp [tab, hz, hz']
  have hres := backRes_len l L
  refine (toInstrS_ok l x0 K hm hw).mono fun t1 K1 ⟨a1, a2, a3⟩ => ?_
  simp
  refine (toIntS_ok L x1 K1 hmL (hv.fr a3)).mono fun t2 K2 ⟨b1, b2, b3⟩ => ?_
  simp
  refine (specBackStep_ok l L t1 t2 K2 hm hmL (a1.row.fr b3) b1.row).mono fun x K3 ⟨w0, c1, c2, c3, c4⟩ => ?_
  subst c1
  have F3 : Fr K K3 := a3.trans (b3.trans c4)
  simp
  refine (toInstrS_ok l x0 K3 hm (hw.fr F3)).mono fun y0 K4 ⟨d1, d2, d3⟩ => ?_
  have F4 := F3.trans d3
  simp
  refine (toIntS_ok L x1 K4 hmL (hv.fr F4)).mono fun y1 K5 ⟨e1, e2, e3⟩ => ?_
  have F5 := F4.trans e3
  simp
  refine (implBackStep_ok l L y0 y1 K5 hm hmL (d1.row.fr e3) e1.row).mono fun x K6 ⟨g0, f1, f2, f3, f4⟩ => ?_
  subst f1
  have F6 := F5.trans f4
  have w6 := c2.fr (d3.trans (e3.trans f4))
  simp
  refine (eqIntS_ok _ _ g0 w0 K6 (by omega) f2.row w6).mono fun y K' ⟨q1, q2⟩ => ?_
  subst q1 q2
  simp [tab]
  refine (toInstrS_ok l x0 K' hm (hw.fr F6)).mono fun t3 K7 ⟨g1, g2, g3⟩ => ?_
  simp
  refine (eqInstrS_ok l l y0 t3 K7 hm ((d1.row.fr (e3.trans f4)).fr g3) g1.row).mono fun y K8 ⟨q1, q2⟩ => ?_
  subst q1
  have F8 := F6.trans (g3.trans q2)
  simp [tab]
  refine (toIntS_ok L x1 K8 hmL (hv.fr F8)).mono fun t4 K9 ⟨i1, i2, i3⟩ => ?_
  simp
  have G9 : Fr K' K9 := g3.trans (q2.trans i3)
  refine (eqIntS_ok _ _ y1 t4 K9 (by omega) ((e1.row.fr f4).fr G9) i1.row).mono fun y K'' ⟨q1, q2⟩ => ?_
  subst q1 q2
  simp [tab]
  have ly0 : ∀ b, y0.at b → K3.length ≤ b ∧ b < K4.length := fun b hb => ⟨d2 b hb, d1.lt b hb⟩
  have ly1 : ∀ b, y1.at b → K4.length ≤ b ∧ b < K5.length := fun b hb => ⟨e2 b hb, e1.lt b hb⟩
  have lg0 : ∀ b, g0.at b → K5.length ≤ b := f3
  have lw0 : ∀ b, w0.at b → b < K3.length := c2.lt
  have s34 := d3.1
  have s45 := e3.1
  refine (markInstrS_ok l y0 K'' hm ((d1.fr (e3.trans f4)).fr G9)).mono fun y KA ⟨q1, q2⟩ => ?_
  subst q1
  have y1A : Own 1 KA y1 (ints L) := ((e1.fr f4).fr G9).keeps q2 fun b hb hx => by have := ly0 b hx; have := ly1 b hb; omega
  have wA : Row 1 KA w0 _ := (w6.fr G9).keeps q2 fun b hb hx => by have := ly0 b hx; have := lw0 b hb; omega
  have gA : Own 1 KA g0 _ := (f2.fr G9).keeps q2 fun b hb hx => by have := ly0 b hx; have := lg0 b hb; omega
  have FA : Fr K KA := Fr.then (F6.trans G9) q2 fun b hb => by have := ly0 b hb; have := F3.1; omega
  simp [tab]
  refine (markIntS_ok _ y1 (1 + 5 * l.length) KA (by omega) (by simp; omega) y1A).mono fun y KB ⟨r1, r2, r3, r4⟩ => ?_
  subst r1
  have wB : Row 1 KB w0 _ := wA.keeps r3 fun b hb hx => by have := ly1 b hx; have := lw0 b hb; omega
  have gB : Own 1 KB g0 _ := gA.keeps r3 fun b hb hx => by have := ly1 b hx; have := lg0 b hb; omega
  have FB : Fr K KB := Fr.then FA r3 fun b hb => by have := ly1 b hb; have := F4.1; omega
  have hk : ¬ (1 + 5 * (l.length : Int) + L.length < 0) := by omega
  simp [tab, hk]
  refine (eqIntS_ok _ _ g0 w0 KB (by omega) gB.row wB).mono fun y K'' ⟨q1, q2⟩ => ?_
  subst q1 q2
  simp [tab]
  refine (markIntS_ok _ g0 1 K'' (by omega) (by simp; omega) gB).mono fun y KC ⟨s1, s2, s3, s4⟩ => ?_
  subst s1
  have wC : Row 1 KC w0 _ := wB.keeps s3 fun b hb hx => by have := lg0 b hx; have := lw0 b hb; omega
  have FC : Fr K KC := Fr.then FB s3 fun b hb => by have := lg0 b hb; have := F5.1; omega
  simp at s2
  simp
  refine (heldIntS_ok _ g0 1 KC (by omega) (by omega) s2.row).mono fun y K' ⟨q1, q2⟩ => ?_
  subst q1 q2
  have hneg : ¬ (1 : Int) + ((backRes l L).1.length : Int) < 0 := by omega
  simp [tab, hneg]
  refine (toInstrS_ok l x0 K' hm (hw.fr FC)).mono fun t5 KD ⟨j1, j2, j3⟩ => ?_
  simp
  refine (toIntS_ok L x1 KD hmL (hv.fr (FC.trans j3))).mono fun t6 KE ⟨k1, k2, k3⟩ => ?_
  simp
  refine (implBackStep_ok l L t5 t6 KE hm hmL (j1.row.fr k3) k1.row).mono fun x KF ⟨h0', m1, m2, m3, m4⟩ => ?_
  subst m1
  have GF : Fr K' KF := j3.trans (k3.trans m4)
  simp
  refine (eqIntS_ok _ _ h0' w0 KF (by omega) m2.row (wC.fr GF)).mono fun y K'' ⟨q1, q2⟩ => ?_
  subst q1 q2
  simp [tab]
  refine (heldIntS_ok _ g0 1 K'' (by omega) (by omega) (s2.row.fr GF)).mono fun y K' ⟨q1, q2⟩ => ?_
  subst q1 q2
  simp [tab, hneg]
end Go.Proofs.Ytdbnokeegocpbaa.Am
