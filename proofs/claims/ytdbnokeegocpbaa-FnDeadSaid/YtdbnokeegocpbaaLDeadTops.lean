/- Flows and lists compared. No condition. -/
import Derived.Test.YtdbnokeegocpbaaLStepTops
import Derived.Test.YtdbnokeegocpbaaLAliveTop
namespace Go.Proofs.Ytdbnokeegocpbaa.Am
open Go Go.RowKit
set_option linter.unusedSimpArgs false
set_option linter.unusedVariables false

theorem ins_eql (a : Ins) : eqlA tab 102 a.enc a.enc = some true := by
  obtain ⟨a1, a2, a3, a4, a5⟩ := a
  simp [eqlA, tab, Ins.enc]
set_option maxRecDepth 100000 in
theorem sameCode_ok (L : List Ins) (v v' : AV) (H : Hp) (hm : L.length ≤ 1048576) (hv : Row 5 H v (L.map Ins.enc)) (hv' : Row 5 H v' (L.map Ins.enc)) : T Try.prog 127 [v, v'] H (fun r K => r = .bool true ∧ K = H) := by
  refine T.by tabOk Try.func127 (by kernel_rfl) rfl _ (by simp [Try.f127]) H _ ?_
  have hlen := hv.len 102
  have hlen' := hv'.len 102
  simp [Try.f127, tab, hlen, hlen']
  refine W_loop _ fun I hI => ?_
  have key : ∀ (r p : List Ins) (ts : TS), L = p ++ r → (ts 0 = v ∧ ts 1 = v' ∧ ts 12 = .int .i64 L.length ∧ ts 13 = .int .i64 p.length) → I ts H := by
    intro r
    induction r with
    | nil =>
      intro p ts e hts
      apply hI
      simp at e
      subst e
      simp [hts, tab]
    | cons a r ih =>
      intro p ts e hts
      apply hI
      have hlt : (p.length : Int) < L.length := by simp [e]; omega
      obtain ⟨b, q, _, e1, e2, -⟩ := hv.get (tab := tab) (e := 102) (ety := tN) rfl (i := p.length) (a := a) (by simp [e]) .i64
      obtain ⟨b', q', _, e1', e2', -⟩ := hv'.get (tab := tab) (e := 102) (ety := tN) rfl (i := p.length) (a := a) (by simp [e]) .i64
      have e2 := e2 rfl
      have e2' := e2' rfl
      have hw := wrap64 (x := (p.length : Int) + 1) (by omega) (by omega)
      have heq := ins_eql a
      simp [hts, tab, hlt]
      refine W_draw mixed (.look 0 (.look 1 (.look 2 (.look 3 (.look 4 (.look 5 (.look 6 (.look 7 (.look 8 .done))))))))) (by kernel_rfl) ?_
      simp [-eqlA, hts, tab, e1, e2, e1', e2', heq, hw]
      exact ih (p ++ [a]) _ (by simp [e]) (by simp [hts])
  exact key L [] _ rfl (by simp)
theorem FRow.fields {K : Hp} {v : AV} {l : List Bk} {us : List AV} (h : FRow K v l us) {i : Nat} {t : Bk} (hi : l[i]? = some t) :
    ∃ b q u, us[i]? = some u ∧ indexAddrA tab (.slice 67) K v (.int .i64 i) = some (.ptr b q) ∧ loadA tLN K (.ptr b q) = some u ∧ loadA tI K (.ptr b (q + 1)) = some (.int .i64 t.test) ∧ loadA tI K (.ptr b (q + 2)) = some (.int .i64 t.thn) ∧ loadA tI K (.ptr b (q + 3)) = some (.int .i64 t.els) ∧ Row 5 K u (t.code.map Ins.enc) := by
  have hlt : i < us.length := by rw [h.len]; exact (List.getElem?_eq_some_iff.1 hi).1
  have hu : us[i]? = some us[i] := List.getElem?_eq_getElem hlt
  have hz : (List.zipWith cellsB l us)[i]? = some (cellsB t us[i]) := by rw [List.getElem?_zipWith, hu, hi]
  have hrow : Row 4 K v ((List.zipWith cellsB l us).map id) := by simpa using h.row
  obtain ⟨b, q, _, g1, _, g2⟩ := Row.get (enc := id) (ety := tK) hrow (show tab 67 = some tK from rfl) hz .i64
  refine ⟨b, q, us[i], hu, g1, ?_, ?_, ?_, ?_, h.inner i t _ hi hu⟩
  · simpa [cellsB] using g2 tLN 0 rfl rfl (by decide)
  · simpa [cellsB] using g2 tI 1 rfl rfl (by decide)
  · simpa [cellsB] using g2 tI 2 rfl rfl (by decide)
  · simpa [cellsB] using g2 tI 3 rfl rfl (by decide)
set_option maxRecDepth 100000 in
theorem sameFlows_ok (f : List Bk) (us us' : List AV) (v v' : AV) (H : Hp) (hm : f.length ≤ 1048576) (hmm : ∀ t ∈ f, t.code.length ≤ 1048576) (hv : FRow H v f us) (hv' : FRow H v' f us') : T Try.prog 66 [v, v'] H (fun r K => r = .bool true ∧ K = H) := by
  refine T.by tabOk Try.func66 (by kernel_rfl) rfl _ (by simp [Try.f66]) H _ ?_
  have hlen := hv.count
  have hlen' := hv'.count
  simp [Try.f66, tab, hlen, hlen']
  refine W_loop _ fun I hI => ?_
  have key : ∀ (r p : List Bk) (ts : TS), f = p ++ r → (ts 0 = v ∧ ts 1 = v' ∧ ts 12 = .int .i64 f.length ∧ ts 13 = .int .i64 p.length) → I ts H := by
    intro r
    induction r with
    | nil =>
      intro p ts e hts
      apply hI
      simp at e
      subst e
      simp [hts, tab]
    | cons a r ih =>
      intro p ts e hts
      apply hI
      have hlt : (p.length : Int) < f.length := by simp [e]; omega
      obtain ⟨b, q, u, _, e1, x0, x1, x2, x3, x4⟩ := hv.fields (i := p.length) (t := a) (by simp [e])
      obtain ⟨b', q', u', _, e1', y0, y1, y2, y3, y4⟩ := hv'.fields (i := p.length) (t := a) (by simp [e])
      have hw := wrap64 (x := (p.length : Int) + 1) (by omega) (by omega)
      simp [hts, tab, hlt]
      refine W_draw mixed (.look 0 (.look 1 (.look 2 (.look 3 (.look 4 (.look 5 (.look 6 (.look 7 (.look 8 (.look 9 (.look 10 (.look 11 (.look 12 (.look 13 (.look 14 (.look 15 (.look 16 (.look 17 (.look 18 (.look 19 (.look 20 (.look 21 (.look 22 (.look 23 (.look 24 (.look 25 (.look 26 (.look 27 (.look 28 (.look 29 (.look 30 (.look 31 (.look 32 (.look 33 (.look 34 (.look 35 (.look 36 (.look 37 (.look 38 (.look 39 (.look 40 (.look 41 (.look 42 (.look 43 (.look 44 (.look 45 (.look 46 (.look 47 (.act 48 [] (.look 49 (.look 50 .done)) .stop))))))))))))))))))))))))))))))))))))))))))))))))) (by kernel_rfl) ?_
      simp (maxDischargeDepth := 9) [hts, tab, e1, e1', x0, x1, x2, x3, y0, y1, y2, y3]
      refine (sameCode_ok a.code u u' H (hmm a (by simp [e])) x4 y4).mono fun r K ⟨z1, z2⟩ => ?_
      subst z1 z2
      simp [hts, tab, hw]
      exact ih (p ++ [a]) _ (by simp [e]) (by simp [hts])
  exact key f [] _ rfl (by simp)
set_option maxRecDepth 100000 in
theorem sameLists_ok (Ls : List (List Int)) (us us' : List AV) (v v' : AV) (H : Hp) (hm : Ls.length ≤ 1048576) (hmm : ∀ L ∈ Ls, L.length ≤ 1048576) (hv : LRow H v Ls us) (hv' : LRow H v' Ls us') : T Try.prog 67 [v, v'] H (fun r K => r = .bool true ∧ K = H) := by
  refine T.by tabOk Try.func67 (by kernel_rfl) rfl _ (by simp [Try.f67]) H _ ?_
  have hlen := hv.count
  have hlen' := hv'.count
  simp [Try.f67, tab, hlen, hlen']
  refine W_loop _ fun I hI => ?_
  have key : ∀ (r p : List (List Int)) (ts : TS), Ls = p ++ r → (ts 0 = v ∧ ts 1 = v' ∧ ts 12 = .int .i64 Ls.length ∧ ts 13 = .int .i64 p.length) → I ts H := by
    intro r
    induction r with
    | nil =>
      intro p ts e hts
      apply hI
      simp at e
      subst e
      simp [hts, tab]
    | cons a r ih =>
      intro p ts e hts
      apply hI
      have hlt : (p.length : Int) < Ls.length := by simp [e]; omega
      obtain ⟨b, q, u, hu, e1, e2, e3⟩ := hv.get (e := 25) rfl (i := p.length) (t := a) (by simp [e])
      obtain ⟨b', q', u', hu', e1', e2', e3'⟩ := hv'.get (e := 25) rfl (i := p.length) (t := a) (by simp [e])
      have hw := wrap64 (x := (p.length : Int) + 1) (by omega) (by omega)
      simp [hts, tab, hlt]
      refine W_draw mixed (.look 0 (.look 1 (.look 2 (.look 3 (.look 4 (.look 5 (.look 6 (.look 7 (.act 8 [] (.look 9 .done) .stop))))))))) (by kernel_rfl) ?_
      simp (maxDischargeDepth := 9) [hts, tab, e1, e2, e1', e2']
      refine (sameInts_ok a u u' H (hmm a (by simp [e])) e3 e3').mono fun r K ⟨z1, z2⟩ => ?_
      subst z1 z2
      simp [hts, tab, hw]
      exact ih (p ++ [a]) _ (by simp [e]) (by simp [hts])
  exact key Ls [] _ rfl (by simp)
theorem hasI_ok (L : List Int) (v : AV) (n : Int) (H : Hp) (hm : L.length ≤ 1048576) (hn : n ∈ L) (hv : Row 1 H v (ints L)) : T Try.prog 68 [v, .int .i64 n] H (fun r K => r = .bool true ∧ K = H) := by
  refine T.by tabOk Try.func68 (by kernel_rfl) rfl _ (by simp [Try.f68]) H _ ?_
  have hlen := hv.len 3
  simp only [ints_length] at hlen
  simp [Try.f68, tab, hlen]
  refine W_loop _ fun I hI => ?_
  have key : ∀ (r p : List Int) (ts : TS), L = p ++ r → n ∈ r → (ts 0 = v ∧ ts 1 = .int .i64 n ∧ ts 7 = v ∧ ts 8 = .int .i64 L.length ∧ ts 9 = .int .i64 p.length) → I ts H := by
    intro r
    induction r with
    | nil => intro p ts e h; cases h
    | cons a r ih =>
      intro p ts e h hts
      apply hI
      have hlt : (p.length : Int) < L.length := by simp [e]; omega
      obtain ⟨b, q, _, e1, e2⟩ := Row.get1 hv (tab := tab) (e := 3) (ety := tI) rfl rfl rfl (i := p.length) (a := a) (by simp [e]) .i64
      have hw := wrap64 (x := (p.length : Int) + 1) (by omega) (by omega)
      by_cases han : a = n
      · simp [hts, tab, hlt, e1, e2, han]
      · simp [hts, tab, hlt, e1, e2, han, hw]
        refine ih (p ++ [a]) _ (by simp [e]) ?_ (by simp [hts])
        rcases List.mem_cons.1 h with h | h
        · exact absurd h.symm han
        · exact h
  exact key L [] _ rfl hn (by simp)
end Go.Proofs.Ytdbnokeegocpbaa.Am
