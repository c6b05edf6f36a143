/- What the laws of moves lean on: lists compared, and whether a spare is needed. No condition. -/
import Derived.Test.YthihphgfblonoaaLRingsFn
import Derived.Test.YthihphgfblonoaaLPlacesDraw
namespace Go.Proofs.Ythihphgfblonoaa.Am
open Go Go.RowKit
set_option linter.unusedSimpArgs false
set_option linter.unusedVariables false

theorem sameInts_ok (L : List Int) (v v' : AV) (H : Hp) (hm : L.length ≤ 1048576) (hv : Row 1 H v (ints L)) (hv' : Row 1 H v' (ints L)) : T Try.prog 41 [v, v'] H (fun r K => r = .bool true ∧ K = H) := by
  refine T.by tabOk Try.func41 (by kernel_rfl) rfl _ (by simp [Try.f41]) H _ ?_
  have hlen := hv.len 3
  have hlen' := hv'.len 3
  simp only [ints_length] at hlen hlen'
  simp [Try.f41, tab, hlen, hlen']
  refine W_loop _ fun I hI => ?_
  have key : ∀ (r p : List Int) (ts : TS), L = p ++ r → (ts 0 = v ∧ ts 1 = v' ∧ ts 12 = .int .i64 L.length ∧ ts 13 = .int .i64 p.length) → I ts H := by
    intro r
    induction r with
    | nil =>
      intro p ts e hts
      apply hI
      simp at e
      subst e
      simp [hts, tab]
    | cons a r ih =>
      intro p ts e hts
      apply hI
      have hlt : (p.length : Int) < L.length := by simp [e]; omega
      obtain ⟨b, q, _, e1, e2⟩ := Row.get1 hv (tab := tab) (e := 3) (ety := tI) rfl rfl rfl (i := p.length) (a := a) (by simp [e]) .i64
      obtain ⟨b', q', _, e1', e2'⟩ := Row.get1 hv' (tab := tab) (e := 3) (ety := tI) rfl rfl rfl (i := p.length) (a := a) (by simp [e]) .i64
      have hw := wrap64 (x := (p.length : Int) + 1) (by omega) (by omega)
      simp [hts, tab, hlt]
      refine W_draw mixed (.look 0 (.look 1 (.look 2 (.look 3 (.look 4 (.look 5 (.look 6 (.look 7 (.look 8 .done))))))))) (by kernel_rfl) ?_
      simp [hts, tab, e1, e2, e1', e2', hw]
      exact ih (p ++ [a]) _ (by simp [e]) (by simp [hts])
  exact key L [] _ rfl (by simp)
set_option maxRecDepth 100000 in
theorem sameLists_ok (Ls : List (List Int)) (us us' : List AV) (v v' : AV) (H : Hp) (hm : Ls.length ≤ 1048576) (hmm : ∀ L ∈ Ls, L.length ≤ 1048576) (hv : LRow H v Ls us) (hv' : LRow H v' Ls us') : T Try.prog 39 [v, v'] H (fun r K => r = .bool true ∧ K = H) := by
  refine T.by tabOk Try.func39 (by kernel_rfl) rfl _ (by simp [Try.f39]) H _ ?_
  have hlen := hv.count
  have hlen' := hv'.count
  simp [Try.f39, tab, hlen, hlen']
  refine W_loop _ fun I hI => ?_
  have key : ∀ (r p : List (List Int)) (ts : TS), Ls = p ++ r → (ts 0 = v ∧ ts 1 = v' ∧ ts 12 = .int .i64 Ls.length ∧ ts 13 = .int .i64 p.length) → I ts H := by
    intro r
    induction r with
    | nil =>
      intro p ts e hts
      apply hI
      simp at e
      subst e
      simp [hts, tab]
    | cons a r ih =>
      intro p ts e hts
      apply hI
      have hlt : (p.length : Int) < Ls.length := by simp [e]; omega
      obtain ⟨b, q, u, hu, e1, e2, e3⟩ := hv.get (e := 29) rfl (i := p.length) (t := a) (by simp [e])
      obtain ⟨b', q', u', hu', e1', e2', e3'⟩ := hv'.get (e := 29) rfl (i := p.length) (t := a) (by simp [e])
      have hw := wrap64 (x := (p.length : Int) + 1) (by omega) (by omega)
      simp [hts, tab, hlt]
      refine W_draw mixed (.look 0 (.look 1 (.look 2 (.look 3 (.look 4 (.look 5 (.look 6 (.look 7 (.act 8 [] (.look 9 .done) .stop))))))))) (by kernel_rfl) ?_
      simp (maxDischargeDepth := 9) [hts, tab, e1, e2, e1', e2']
      refine (sameInts_ok a u u' H (hmm a (by simp [e])) e3 e3').mono fun r K ⟨z1, z2⟩ => ?_
      subst z1 z2
      simp [hts, tab, hw]
      exact ih (p ++ [a]) _ (by simp [e]) (by simp [hts])
  exact key Ls [] _ rfl (by simp)
open Classical in
noncomputable def needRes (l : List Move) : Bool × Bool := if GoodM l then (decide (0 < (rings l).length), true) else (false, false)
theorem specNeeds_ok (l : List Move) (v : AV) (H : Hp) (hm : l.length ≤ 1048576) (hv : Row 2 H v (moves l)) : T Try.prog 24 [v] H (fun r K => r = .tup [.bool (needRes l).1, .bool (needRes l).2] ∧ Fr H K) := by
  refine T.by tabOk Try.func24 (by kernel_rfl) rfl _ (by simp [Try.f24]) H _ ?_
  simp [Try.f24]
  refine (specGoodM_ok l v H hm hv).mono fun r K ⟨⟨t, h1, h2⟩, h3⟩ => ?_
  subst h1
  cases t with
  | false =>
    have hn : needRes l = (false, false) := by unfold needRes; rw [if_neg (fun h => by cases h2.2 h)]
    simp [tab, hn]
    exact h3
  | true =>
    have hg := h2.1 rfl
    have hn : needRes l = (decide (0 < (rings l).length), true) := by unfold needRes; rw [if_pos hg]
    simp [tab]
    refine (l8Rings_ok l v K hm (hv.fr h3)).mono fun r K2 ⟨us, a1, a2, a3⟩ => ?_
    have hlen := a1.look.count
    simp [tab, hlen, hn]
    exact h3.trans a3
theorem implNeeds_ok (l : List Move) (v : AV) (H : Hp) (hm : l.length ≤ 1048576) (hv : Row 2 H v (moves l)) : T Try.prog 25 [v] H (fun r K => r = .tup [.bool (needRes l).1, .bool (needRes l).2] ∧ Fr H K) := by
  refine T.by tabOk Try.func25 (by kernel_rfl) rfl _ (by simp [Try.f25]) H _ ?_
  simp [Try.f25]
  refine (areMoves_ok l v H hm hv).mono fun r K ⟨⟨t, h1, h2⟩, h3⟩ => ?_
  subst h1
  cases t with
  | false =>
    have hn : needRes l = (false, false) := by unfold needRes; rw [if_neg (fun h => by cases h2.2 h)]
    simp [tab, hn]
    exact h3
  | true =>
    have hg := h2.1 rfl
    have hn : needRes l = (decide (0 < (rings l).length), true) := by unfold needRes; rw [if_pos hg]
    simp [tab]
    refine (ringsIn_ok l v K hm (hv.fr h3)).mono fun r K2 ⟨us, a1, a2, a3⟩ => ?_
    have hlen := a1.look.count
    simp [tab, hlen, hn]
    exact h3.trans a3
end Go.Proofs.Ythihphgfblonoaa.Am
