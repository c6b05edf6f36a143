/- Flows compared. No condition. -/
import Derived.Test.YtdbnokeegocpbaaGreatLStepTops
import Derived.Test.YtdbnokeegocpbaaGreatLFlowOwn
namespace Go.Proofs.YtdbnokeegocpbaaGreat.Am
open Go Go.RowKit
set_option linter.unusedSimpArgs false
set_option linter.unusedVariables false

theorem ins_eql (a : Ins) : eqlA tab 53 a.enc a.enc = some true := by
  obtain ⟨a1, a2, a3, a4, a5⟩ := a
  simp [eqlA, tab, Ins.enc]
set_option maxRecDepth 100000 in
theorem sameCode_ok (L : List Ins) (v v' : AV) (H : Hp) (hm : L.length ≤ 1048576) (hv : Row 5 H v (L.map Ins.enc)) (hv' : Row 5 H v' (L.map Ins.enc)) : T Tryz.prog 29 [v, v'] H (fun r K => r = .bool true ∧ K = H) := by
  refine T.by tabOk Tryz.func29 (by kernel_rfl) rfl _ (by simp [Tryz.f29]) H _ ?_
  have hlen := hv.len 53
  have hlen' := hv'.len 53
  simp [Tryz.f29, tab, hlen, hlen']
  refine W_loop _ fun I hI => ?_
  have key : ∀ (r p : List Ins) (ts : TS), L = p ++ r → (ts 0 = v ∧ ts 1 = v' ∧ ts 12 = .int .i64 L.length ∧ ts 13 = .int .i64 p.length) → I ts H := by
    intro r
    induction r with
    | nil =>
      intro p ts e hts
      apply hI
      simp at e
      subst e
      simp [hts, tab]
    | cons a r ih =>
      intro p ts e hts
      apply hI
      have hlt : (p.length : Int) < L.length := by simp [e]; omega
      obtain ⟨b, q, _, e1, e2, -⟩ := hv.get (tab := tab) (e := 53) (ety := tN) rfl (i := p.length) (a := a) (by simp [e]) .i64
      obtain ⟨b', q', _, e1', e2', -⟩ := hv'.get (tab := tab) (e := 53) (ety := tN) rfl (i := p.length) (a := a) (by simp [e]) .i64
      have e2 := e2 rfl
      have e2' := e2' rfl
      have hw := wrap64 (x := (p.length : Int) + 1) (by omega) (by omega)
      have heq := ins_eql a
      simp [hts, tab, hlt]
      refine W_draw mixed (.look 0 (.look 1 (.look 2 (.look 3 (.look 4 (.look 5 (.look 6 (.look 7 (.look 8 .done))))))))) (by kernel_rfl) ?_
      simp [-eqlA, hts, tab, e1, e2, e1', e2', heq, hw]
      exact ih (p ++ [a]) _ (by simp [e]) (by simp [hts])
  exact key L [] _ rfl (by simp)
theorem FRow.fields {K : Hp} {v : AV} {l : List Bk} {us : List AV} (h : FRow K v l us) {i : Nat} {t : Bk} (hi : l[i]? = some t) :
    ∃ b q u, us[i]? = some u ∧ indexAddrA tab (.slice 51) K v (.int .i64 i) = some (.ptr b q) ∧ loadA tLN K (.ptr b q) = some u ∧ loadA tI K (.ptr b (q + 1)) = some (.int .i64 t.test) ∧ loadA tI K (.ptr b (q + 2)) = some (.int .i64 t.thn) ∧ loadA tI K (.ptr b (q + 3)) = some (.int .i64 t.els) ∧ Row 5 K u (t.code.map Ins.enc) := by
  have hlt : i < us.length := by rw [h.len]; exact (List.getElem?_eq_some_iff.1 hi).1
  have hu : us[i]? = some us[i] := List.getElem?_eq_getElem hlt
  have hz : (List.zipWith cellsB l us)[i]? = some (cellsB t us[i]) := by rw [List.getElem?_zipWith, hu, hi]
  have hrow : Row 4 K v ((List.zipWith cellsB l us).map id) := by simpa using h.row
  obtain ⟨b, q, _, g1, _, g2⟩ := Row.get (enc := id) (ety := tK) hrow (show tab 51 = some tK from rfl) hz .i64
  refine ⟨b, q, us[i], hu, g1, ?_, ?_, ?_, ?_, h.inner i t _ hi hu⟩
  · simpa [cellsB] using g2 tLN 0 rfl rfl (by decide)
  · simpa [cellsB] using g2 tI 1 rfl rfl (by decide)
  · simpa [cellsB] using g2 tI 2 rfl rfl (by decide)
  · simpa [cellsB] using g2 tI 3 rfl rfl (by decide)
set_option maxRecDepth 100000 in
theorem sameFlows_ok (f : List Bk) (us us' : List AV) (v v' : AV) (H : Hp) (hm : f.length ≤ 1048576) (hmm : ∀ t ∈ f, t.code.length ≤ 1048576) (hv : FRow H v f us) (hv' : FRow H v' f us') : T Tryz.prog 9 [v, v'] H (fun r K => r = .bool true ∧ K = H) := by
  refine T.by tabOk Tryz.func9 (by kernel_rfl) rfl _ (by simp [Tryz.f9]) H _ ?_
  have hlen := hv.count
  have hlen' := hv'.count
  simp [Tryz.f9, tab, hlen, hlen']
  refine W_loop _ fun I hI => ?_
  have key : ∀ (r p : List Bk) (ts : TS), f = p ++ r → (ts 0 = v ∧ ts 1 = v' ∧ ts 12 = .int .i64 f.length ∧ ts 13 = .int .i64 p.length) → I ts H := by
    intro r
    induction r with
    | nil =>
      intro p ts e hts
      apply hI
      simp at e
      subst e
      simp [hts, tab]
    | cons a r ih =>
      intro p ts e hts
      apply hI
      have hlt : (p.length : Int) < f.length := by simp [e]; omega
      obtain ⟨b, q, u, _, e1, x0, x1, x2, x3, x4⟩ := hv.fields (i := p.length) (t := a) (by simp [e])
      obtain ⟨b', q', u', _, e1', y0, y1, y2, y3, y4⟩ := hv'.fields (i := p.length) (t := a) (by simp [e])
      have hw := wrap64 (x := (p.length : Int) + 1) (by omega) (by omega)
      simp [hts, tab, hlt]
      refine W_draw mixed (.look 0 (.look 1 (.look 2 (.look 3 (.look 4 (.look 5 (.look 6 (.look 7 (.look 8 (.look 9 (.look 10 (.look 11 (.look 12 (.look 13 (.look 14 (.look 15 (.look 16 (.look 17 (.look 18 (.look 19 (.look 20 (.look 21 (.look 22 (.look 23 (.look 24 (.look 25 (.look 26 (.look 27 (.look 28 (.look 29 (.look 30 (.look 31 (.look 32 (.look 33 (.look 34 (.look 35 (.look 36 (.look 37 (.look 38 (.look 39 (.look 40 (.look 41 (.look 42 (.look 43 (.look 44 (.look 45 (.look 46 (.look 47 (.act 48 [] (.look 49 (.look 50 .done)) .stop))))))))))))))))))))))))))))))))))))))))))))))))) (by kernel_rfl) ?_
      simp (maxDischargeDepth := 9) [hts, tab, e1, e1', x0, x1, x2, x3, y0, y1, y2, y3]
      refine (sameCode_ok a.code u u' H (hmm a (by simp [e])) x4 y4).mono fun r K ⟨z1, z2⟩ => ?_
      subst z1 z2
      simp [hts, tab, hw]
      exact ih (p ++ [a]) _ (by simp [e]) (by simp [hts])
  exact key f [] _ rfl (by simp)
end Go.Proofs.YtdbnokeegocpbaaGreat.Am
