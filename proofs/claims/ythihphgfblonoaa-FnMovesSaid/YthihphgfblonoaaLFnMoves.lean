/- The law FnMoves. No condition. -/
import Derived.Test.YthihphgfblonoaaLTurnWalk
import Derived.Test.YthihphgfblonoaaLBytes
namespace Go.Proofs.Ythihphgfblonoaa.Am
open Go Go.RowKit
set_option linter.unusedSimpArgs false
set_option linter.unusedVariables false

theorem goodMoves_ok (l : List Move) (v : AV) (H : Hp) (hm : l.length ≤ 1048576) (hv : Row 2 H v (moves l)) : T Try.prog 15 [v] H (fun r K => r = .bool (yres l).2 ∧ Fr H K) := by
  refine T.by tabOk Try.func15 (by kernel_rfl) rfl _ (by simp [Try.f15]) H _ ?_
  simp [Try.f15]
  refine (areMoves_ok l v H hm hv).mono fun r K0 ⟨⟨t, h1, h2⟩, h3⟩ => ?_
  subst h1
  rcases told_iff h2 with ⟨hg, rfl⟩ | ⟨hg, rfl⟩
  · simp [tab, yres, hg]
    exact h3
  · simp [tab, yres, hg]
    exact h3
/-- The first ten of eleven. -/
theorem Row.ten {K : Hp} {u : AV} {X : List Int} (h : Row 1 K u (ints X)) (hX : X.length = 11) : ∃ x, sliceA u none (some (.int .i64 10)) = some x ∧ Row 1 K x (ints (X.take 10)) := by
  obtain ⟨x, p1, p2, _⟩ := h.part 0 10 (by omega) (by rw [ints_length]; omega) none (some (.int .i64 10)) (by simp [boundA]) (by simp [boundA])
  exact ⟨x, p1, by simpa [ints, List.map_take] using p2⟩
theorem atRes_len (l : List Move) (L : List Int) : (atRes l L).1.length ≤ L.length := by
  unfold atRes
  split
  · simp [atAll_len]
  · simp
theorem turnRes_len (l : List Move) (L : List Int) : (turnRes l L).1.length ≤ L.length := by
  unfold turnRes
  split
  · simp [turnAll_len]
  · simp
set_option maxHeartbeats 1000000 in
set_option maxRecDepth 100000 in
theorem fnMoves_law (v v2 : AV) (bs cs : List Int) (H : Hp) (hv : Row 1 H v (bytesA bs)) (hb : ∀ y ∈ bs, 0 ≤ y ∧ y ≤ 255) (hbl : bs.length ≤ 140737488355328) (hv2 : Row 1 H v2 (bytesA cs)) (hb2 : ∀ y ∈ cs, 0 ≤ y ∧ y ≤ 255) (hbl2 : cs.length ≤ 140737488355328) : T Try.prog 11 [v, v2] H (fun r K => r = .bool true) := by
  refine T.by tabOk Try.func11 (by kernel_rfl) rfl _ (by simp [Try.f11]) H _ ?_
  have hlv : ∀ e, lenA (.slice e) v = some (.int .i64 bs.length) := fun e => by simpa [bytesA] using hv.len e
  have hlv2 : ∀ e, lenA (.slice e) v2 = some (.int .i64 cs.length) := fun e => by simpa [bytesA] using hv2.len e
  have hwr := wrap64 (x := (bs.length : Int) + cs.length) (by omega) (by omega)
  by_cases hbig : 1048576 < (bs.length : Int) + cs.length
  · simp [Try.f11, tab, hlv, hlv2, hwr, hbig]
  simp [Try.f11, tab, hlv, hlv2, hwr, hbig]
  refine (drawOnce_ok v H ⟨bs, hv, hb, by omega⟩).mono fun r K0 ⟨⟨lv, w, l, L, e1, hl, hll, hw, hL⟩, f0⟩ => ?_
  subst e1
  have hm : l.length ≤ 1048576 := by omega
  have hLm : L.length ≤ 1048576 := by omega
  simp [tab]
  refine (implAt_ok l L lv w K0 hm hLm hl hw).mono fun r K1 ⟨p, e1, a1, _, f1⟩ => ?_
  subst e1
  simp [tab]
  refine (specAt_ok l L lv w K1 hm hLm (hl.fr f1) (hw.fr f1)).mono fun r K2 ⟨p', e1, a2, _, f2⟩ => ?_
  subst e1
  have F2 := f1.trans f2
  simp [tab]
  refine (implLay_ok l lv K2 hm (hl.fr F2)).mono fun r K3 ⟨x, e1, a3, _, f3⟩ => ?_
  subst e1
  have F3 := F2.trans f3
  simp [tab]
  refine (specLay_ok l lv K3 hm (hl.fr F3)).mono fun r K4 ⟨x', e1, a4, _, f4⟩ => ?_
  subst e1
  have F4 := F3.trans f4
  have hyl := yres_len l
  have hal := atRes_len l L
  simp [tab]
  refine (sameInts_ok (atRes l L).1 p p' K4 (by omega) (a1.fr (f2.trans (f3.trans f4))).row (a2.fr (f3.trans f4)).row).mono fun r K ⟨e1, e2⟩ => ?_
  subst e1 e2
  simp [tab]
  refine (sameMoves_ok (yres l).1 x x' K (by omega) (a3.fr f4).row a4.row).mono fun r K' ⟨e1, e2⟩ => ?_
  subst e1 e2
  simp [tab]
  refine (goodMoves_ok l lv K' hm (hl.fr F4)).mono fun r K5 ⟨e1, f5⟩ => ?_
  subst e1
  simp [-W_seq, tab]
  have F5 : Fr H K5 := f0.trans (F4.trans f5)
  have hK0 : Fr K0 K5 := F4.trans f5
  rw [W_seq]
  refine W_cut (fun ts K => ts 1 = v2 ∧ Fr H K) ?_ ?_
  · by_cases hg : GoodM l ∧ GoodP L
    case neg =>
      have e : atRes l L = ([], false) := by unfold atRes; rw [if_neg hg]
      simp [tab, e]
      exact F5
    have e : atRes l L = (atAll L l L, true) := by unfold atRes; rw [if_pos hg]
    have ey : yres l = (lay l, true) := by unfold yres; rw [if_pos hg.1]
    have et : turnRes (lay l) L = (turnAll (lay l) L, true) := by unfold turnRes; rw [if_pos ⟨lay_few hg.1, lay_in hg.1, hg.2⟩]
    rw [e] at a1
    rw [ey] at a3
    simp [tab, e]
    refine (implTurn_ok (lay l) L x w K5 (by have := lay_few hg.1; omega) hLm (a3.fr (f4.trans f5)).row (hw.fr hK0)).mono fun r K6 ⟨q, e1, b1, _, f6⟩ => ?_
    subst e1
    rw [et] at b1
    have hq := b1.row
    have hp := (a1.fr (f2.trans (f3.trans (f4.trans (f5.trans f6))))).row
    obtain ⟨q10, y1, y2⟩ := hq.ten (by rw [turnAll_len]; exact hL)
    obtain ⟨p10, z1, z2⟩ := hp.ten (by rw [atAll_len]; exact hL)
    rw [turn_lay hg.1 hL] at y2
    have hql := hq.live
    have hpl := hp.live
    simp [tab, et]
    refine W_draw mixed (.look 0 (.look 1 (.look 2 (.look 3 (.look 4 (.look 5 (.look 6 (.act 7 [] (.look 8 (.look 9 .done)) .stop)))))))) (by kernel_rfl) ?_
    simp [tab, et, y1, z1, hql, hpl]
    refine (sameInts_ok ((atAll L l L).take 10) q10 p10 K6 (by simp; omega) y2 z2).mono fun r K ⟨e1, e2⟩ => ?_
    subst e1 e2
    simp [tab]
    exact F5.trans f6
  rintro ts K ⟨hts, hK⟩
  simp only [post_sq]
  simp [tab, hts]
  refine (drawTurn_ok v2 K ⟨cs, hv2.fr hK, hb2, by omega⟩).mono fun r K0 ⟨⟨mv, w', m, M, e1, hm', hml, hw', hM⟩, g0⟩ => ?_
  subst e1
  simp [tab]
  refine (implTurn_ok m M mv w' K0 (by omega) (by omega) hm' hw').mono fun r K1 ⟨q, e1, b1, _, g1⟩ => ?_
  subst e1
  simp [tab]
  refine (specTurn_ok m M mv w' K1 (by omega) (by omega) (hm'.fr g1) (hw'.fr g1)).mono fun r K2 ⟨q', e1, b2, _, g2⟩ => ?_
  subst e1
  have htl := turnRes_len m M
  simp [tab]
  refine (sameInts_ok (turnRes m M).1 q q' K2 (by omega) (b1.fr g2).row b2.row).mono fun r K ⟨e1, e2⟩ => ?_
  subst e1 e2
  simp [tab]
theorem law_in (H : Hp) (x0 x1 : AV) (h0 : SSl 1 1 (SInt .u8) H [x0]) (h1 : SSl 1 1 (SInt .u8) H [x1]) : T Try.prog 11 [x0, x1] H (fun r K => r = .bool true) := by
  obtain ⟨bs, a1, a2, a3⟩ := bytes_open H x0 h0
  obtain ⟨cs, b1, b2, b3⟩ := bytes_open H x1 h1
  exact fnMoves_law x0 x1 bs cs H a1 a2 a3 b1 b2 b3
end Go.Proofs.Ythihphgfblonoaa.Am
