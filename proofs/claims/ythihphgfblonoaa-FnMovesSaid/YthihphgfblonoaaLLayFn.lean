/- LayMoves and FewestMoves, as the reference and the program answer. No condition. -/
import Derived.Test.YthihphgfblonoaaLLayImpl
namespace Go.Proofs.Ythihphgfblonoaa.Am
open Go Go.RowKit
set_option linter.unusedSimpArgs false
set_option linter.unusedVariables false

open Classical in
noncomputable def yres (l : List Move) : List Move × Bool := if GoodM l then (lay l, true) else ([], false)
def YRes (H : Hp) (l : List Move) (r : AV) (K : Hp) : Prop := ∃ out, r = .tup [out, .bool (yres l).2] ∧ Own 2 K out (moves (yres l).1) ∧ Fresh H.length out ∧ Fr H K
theorem specLay_ok (l : List Move) (v : AV) (H : Hp) (hm : l.length ≤ 1048576) (hv : Row 2 H v (moves l)) : T Try.prog 35 [v] H (YRes H l) := by
  refine T.by tabOk Try.func35 (by kernel_rfl) rfl _ (by simp [Try.f35]) H _ ?_
  simp [Try.f35]
  refine (specGoodM_ok l v H hm hv).mono fun r K0 ⟨⟨t, h1, h2⟩, h3⟩ => ?_
  subst h1
  rcases told_iff h2 with ⟨hg, rfl⟩ | ⟨hg, rfl⟩
  case inr =>
    simp
    exact ⟨.nil, by simp [yres, hg], by simpa [yres, hg, moves] using Own.nil 2 K0, Fresh.nil _, h3⟩
  have h10 := hg.few
  simp
  refine (l8Lay_ok l v K0 (by omega) (hv.fr h3)).mono fun r K1 ⟨e1, e2, e3⟩ => ?_
  simp
  exact ⟨r, by simp [yres, hg], by simpa only [yres, if_pos hg] using e1, e2.mono h3.1, h3.trans e3⟩
theorem specFew_ok (l : List Move) (v : AV) (H : Hp) (hm : l.length ≤ 1048576) (hv : Row 2 H v (moves l)) : T Try.prog 33 [v] H (fun r K => r = .tup [.int .i64 (yres l).1.length, .bool (yres l).2] ∧ Fr H K) := by
  refine T.by tabOk Try.func33 (by kernel_rfl) rfl _ (by simp [Try.f33]) H _ ?_
  simp [Try.f33]
  refine (specGoodM_ok l v H hm hv).mono fun r K0 ⟨⟨t, h1, h2⟩, h3⟩ => ?_
  subst h1
  rcases told_iff h2 with ⟨hg, rfl⟩ | ⟨hg, rfl⟩
  case inr =>
    simp [yres, hg]
    exact h3
  have h10 := hg.few
  simp
  refine (l8Lay_ok l v K0 (by omega) (hv.fr h3)).mono fun r K1 ⟨e1, e2, e3⟩ => ?_
  have hlen := e1.row.len 51
  simp [tab, hlen, yres, hg]
  exact h3.trans e3
theorem implLay_ok (l : List Move) (v : AV) (H : Hp) (hm : l.length ≤ 1048576) (hv : Row 2 H v (moves l)) : T Try.prog 36 [v] H (YRes H l) := by
  refine T.by tabOk Try.func36 (by kernel_rfl) rfl _ (by simp [Try.f36]) H _ ?_
  simp [Try.f36]
  refine (areMoves_ok l v H hm hv).mono fun r K0 ⟨⟨t, h1, h2⟩, h3⟩ => ?_
  subst h1
  rcases told_iff h2 with ⟨hg, rfl⟩ | ⟨hg, rfl⟩
  case inr =>
    simp
    exact ⟨.nil, by simp [yres, hg], by simpa [yres, hg, moves] using Own.nil 2 K0, Fresh.nil _, h3⟩
  have h10 := hg.few
  simp
  refine (layMoves_ok l v K0 (by omega) (hv.fr h3)).mono fun r K1 ⟨e1, e2, e3⟩ => ?_
  simp
  exact ⟨r, by simp [yres, hg], by simpa only [yres, if_pos hg] using e1, e2.mono h3.1, h3.trans e3⟩
theorem implFew_ok (l : List Move) (v : AV) (H : Hp) (hm : l.length ≤ 1048576) (hv : Row 2 H v (moves l)) : T Try.prog 34 [v] H (fun r K => r = .tup [.int .i64 (yres l).1.length, .bool (yres l).2] ∧ Fr H K) := by
  refine T.by tabOk Try.func34 (by kernel_rfl) rfl _ (by simp [Try.f34]) H _ ?_
  simp [Try.f34]
  refine (areMoves_ok l v H hm hv).mono fun r K0 ⟨⟨t, h1, h2⟩, h3⟩ => ?_
  subst h1
  rcases told_iff h2 with ⟨hg, rfl⟩ | ⟨hg, rfl⟩
  case inr =>
    simp [yres, hg]
    exact h3
  have h10 := hg.few
  simp
  refine (layMoves_ok l v K0 (by omega) (hv.fr h3)).mono fun r K1 ⟨e1, e2, e3⟩ => ?_
  have hlen := e1.row.len 51
  simp [tab, hlen, yres, hg]
  exact h3.trans e3
theorem lay_len {l : List Move} (hg : GoodM l) : (lay l).length ≤ 1000 := by
  have h1 := hg.few
  have h2 := left0_len l
  have h3 := emit_len (left0 l).length (left0 l) []
  have h4 : (rings (laid l).1).length ≤ 10 := ringsTo_len _ 10
  have h5 := flat_len (rings (laid l).1) (rings_inner _)
  simp only [List.length_nil, Nat.add_zero] at h3
  rw [lay, List.length_append]
  have h6 : (laid l).2.length ≤ (left0 l).length := by unfold laid; omega
  omega
theorem yres_len (l : List Move) : (yres l).1.length ≤ 1000 := by
  unfold yres
  split
  · rename_i h; exact lay_len h
  · simp
theorem few_law (l : List Move) (v : AV) (H : Hp) (hm : l.length ≤ 140737488355328) (hv : Row 2 H v (moves l)) : T Try.prog 8 [v] H (fun r K => r = .bool true) := by
  refine T.by tabOk Try.func8 (by kernel_rfl) rfl _ (by simp [Try.f8]) H _ ?_
  simp [Try.f8]
  refine (szMoveS_ok l v H hm hv).mono fun r K ⟨h1, h2⟩ => ?_
  subst h1 h2
  by_cases hl : 1048576 < l.length
  · simp [hl]
  have hl' : ¬ (1048576 : Int) - l.length < 0 := by omega
  have hm : l.length ≤ 1048576 := by omega
  simp [hl, hl', tab]
  refine (toMoveS_ok l v K hm hv).mono fun x K1 ⟨a1, a3, a4⟩ => ?_
  simp
  refine (specFew_ok l x K1 hm a1.row).mono fun r K2 ⟨b1, b4⟩ => ?_
  subst b1
  have f2 : Fr K K2 := a4.trans b4
  simp
  refine (toMoveS_ok l v K2 hm (hv.fr f2)).mono fun x0 K3 ⟨c1, c3, c4⟩ => ?_
  have f3 := f2.trans c4
  simp
  refine (implFew_ok l x0 K3 hm c1.row).mono fun r K4 ⟨d1, d4⟩ => ?_
  subst d1
  have f4 := f3.trans d4
  simp [tab]
  refine (toMoveS_ok l v K4 hm (hv.fr f4)).mono fun x5 K5 ⟨p1, p3, p4⟩ => ?_
  simp
  refine (eqMoveS_ok l l x0 x5 K5 hm (c1.fr (d4.trans p4)).row p1.row).mono fun y K6 ⟨q1, q2⟩ => ?_
  subst q1
  simp [tab]
end Go.Proofs.Ythihphgfblonoaa.Am
