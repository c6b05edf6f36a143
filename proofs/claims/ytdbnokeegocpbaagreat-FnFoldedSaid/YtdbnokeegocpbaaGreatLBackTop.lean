/- The law of BackStep. No condition. -/
import Derived.Test.YtdbnokeegocpbaaGreatLBack
namespace Go.Proofs.YtdbnokeegocpbaaGreat.Am
open Go Go.RowKit
set_option linter.unusedSimpArgs false
set_option linter.unusedVariables false

open Classical in
noncomputable def backRes (l : List Ins) (L : List Int) : List Int × Bool := if GoodC l ∧ GoodN L then (setN (codeS l false (· ∈ L)), true) else ([], false)
theorem backRes_len (l : List Ins) (L : List Int) : (backRes l L).1.length ≤ 8 := by
  unfold backRes
  split
  · exact setN_len _
  · simp
theorem specBackStep_ok (l : List Ins) (L : List Int) (w v : AV) (H : Hp) (hm : l.length ≤ 1048576) (hmL : L.length ≤ 1048576) (hw : Row 5 H w (l.map Ins.enc)) (hv : Row 1 H v (ints L)) : T Tryz.prog 14 [w, v] H (fun r K => ∃ out, r = .tup [out, .bool (backRes l L).2] ∧ Row 1 K out (ints (backRes l L).1) ∧ Fresh H.length out ∧ Fr H K) := by
  refine T.by tabOk Tryz.func14 (by kernel_rfl) rfl _ (by simp [Tryz.f14]) H _ ?_
  simp [Tryz.f14]
  refine (goodCode_ok l w H hm hw).mono fun r K ⟨⟨t, h1, h2⟩, h3⟩ => ?_
  subst h1
  cases t with
  | false =>
    have hg : ¬ GoodC l := fun h => by cases h2.2 h
    simp [tab, backRes, hg]
    exact ⟨(Own.nil 1 K).row, Fresh.nil _, h3⟩
  | true =>
    have hg := h2.1 rfl
    simp [tab]
    refine (l7Names_ok L v K hmL (hv.fr h3)).mono fun r K1 ⟨⟨t, g1, g2⟩, g3⟩ => ?_
    subst g1 g3
    cases t with
    | false =>
      have hgn : ¬ GoodN L := fun h => by cases g2.2 h
      simp [tab, backRes, hg, hgn]
      exact ⟨(Own.nil 1 _).row, Fresh.nil _, h3⟩
    | true =>
      have hgn := g2.1 rfl
      have hnew := Own.new (sz := 1) (K := K1) (es := ints []) (ints_one _)
      simp [ints] at hnew
      obtain ⟨u, K', a1, a2, a3, a4⟩ := Own.join (es := []) (by simpa [ints] using hnew) ((hv.fr h3).fr (Fr.app K1 [some ⟨1, true, []⟩])) (by simp; omega)
      have f1 : Fr K1 K' := Fr.then (Fr.app K1 _) a3 (by intro b hb; cases hb; exact Nat.le_refl _)
      simp [tab, buildSliceA, zerosA, fillA, over, a1]
      refine (l7Code_ok l w L u false K' hg.2 hm (hw.fr (h3.trans f1)) hgn (by simpa using a2.row)).mono fun x K2 ⟨L1, y1, y2, y3, y4, y5⟩ => ?_
      simp [tab, backRes, hg, hgn]
      rw [← setN_eq' y2 y3]
      refine ⟨y1, fun b hb => (y4 b hb).elim (fun h => (a4 b h).elim (fun h => by cases h; exact h3.1) fun h => ?_) fun h => ?_, h3.trans (f1.trans y5)⟩
      · have := h3.1; simp at h; omega
      · have := h3.1; have := f1.1; omega
theorem implBackStep_ok (l : List Ins) (L : List Int) (w v : AV) (H : Hp) (hm : l.length ≤ 1048576) (hmL : L.length ≤ 1048576) (hw : Row 5 H w (l.map Ins.enc)) (hv : Row 1 H v (ints L)) : T Tryz.prog 13 [w, v] H (fun r K => ∃ out, r = .tup [out, .bool (backRes l L).2] ∧ Own 1 K out (ints (backRes l L).1) ∧ Fresh H.length out ∧ Fr H K) := by
  refine T.by tabOk Tryz.func13 (by kernel_rfl) rfl _ (by simp [Tryz.f13]) H _ ?_
  simp [Tryz.f13]
  refine (isCode_ok l w H hm hw).mono fun r K ⟨⟨t, h1, h2⟩, h3⟩ => ?_
  subst h1
  cases t with
  | false =>
    have hg : ¬ GoodC l := fun h => by cases h2.2 h
    simp [tab, backRes, hg]
    exact ⟨Own.nil 1 K, Fresh.nil _, h3⟩
  | true =>
    have hg := h2.1 rfl
    simp [tab]
    refine (areNames_ok L v K hmL (hv.fr h3)).mono fun r K1 ⟨⟨t, g1, g2⟩, g3⟩ => ?_
    subst g1 g3
    cases t with
    | false =>
      have hgn : ¬ GoodN L := fun h => by cases g2.2 h
      simp [tab, backRes, hg, hgn]
      exact ⟨Own.nil 1 _, Fresh.nil _, h3⟩
    | true =>
      have hgn := g2.1 rfl
      simp [tab]
      refine (setOf_ok L v K1 hmL hgn.1 (hv.fr h3)).mono fun r K2 ⟨⟨c, c1, c2⟩, c3⟩ => ?_
      subst c1
      simp [tab]
      refine (backStep_ok l w c _ true K2 hg.2 hm (hw.fr (h3.trans c3)) c2).mono fun r K3 ⟨⟨c', d1, d2⟩, d3⟩ => ?_
      subst d1
      simp [tab]
      refine (listOf_ok c' _ K3 d2).mono fun x K4 ⟨⟨L1, y1, y2, y3⟩, y4, y5⟩ => ?_
      simp [tab, backRes, hg, hgn]
      have y3 : ∀ n, n ∈ L1 ↔ Nm n ∧ codeS l false (· ∈ L) n := y3
      rw [← setN_eq y2 y3]
      exact ⟨y1, y4.mono (by have := h3.1; have := c3.1; have := d3.1; omega), h3.trans (c3.trans (d3.trans y5))⟩
end Go.Proofs.YtdbnokeegocpbaaGreat.Am
