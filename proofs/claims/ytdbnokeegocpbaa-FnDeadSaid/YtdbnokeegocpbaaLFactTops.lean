/- The functions of facts, as the laws call them. No condition. -/
import Derived.Test.YtdbnokeegocpbaaLFactAll
namespace Go.Proofs.Ytdbnokeegocpbaa.Am
open Go Go.RowKit
set_option linter.unusedSimpArgs false
set_option linter.unusedVariables false

open Classical in
noncomputable def flowRes (ways : Bool) (f : List Bk) (vars : List Fct) : List (List Fct) × Bool := if GoodF f ∧ GoodFs vars then (flowF ways f vars, true) else ([], false)
def GridAt (ways : Bool) (f : List Bk) (vars : List Fct) (H : Hp) (r : AV) (K : Hp) : Prop := ∃ v, r = .tup [v, .bool (flowRes ways f vars).2] ∧ (∃ us, GOwn Fct.enc K v (flowRes ways f vars).1 us) ∧ Fr H K
set_option maxRecDepth 100000 in
theorem implWay_ok (f : List Bk) (ws : List AV) (fv : AV) (R : List Fct) (w : AV) (H : Hp) (hm : f.length ≤ 1048576) (hmm : ∀ t ∈ f, t.code.length ≤ 1048576) (hmv : R.length ≤ 1048576) (hv : FRow H fv f ws) (hw : Row 3 H w (fcts R)) : T Try.prog 42 [fv, w] H (GridAt true f R H) := by
  refine T.by tabOk Try.func42 (by kernel_rfl) rfl _ (by simp [Try.f42]) H _ ?_
  simp [Try.f42]
  refine (isFlow_ok f ws fv H hm hmm hv).mono fun r K ⟨⟨t, h1, h2⟩, h3⟩ => ?_
  subst h1
  cases t with
  | false =>
    have hn : ¬ GoodF f := fun h => by cases h2.2 h
    simp [tab]
    exact ⟨.nil, by simp [flowRes, hn], ⟨[], by simpa [flowRes, hn] using GOwn.nil (enc := Fct.enc) K⟩, h3⟩
  | true =>
  have hg := h2.1 rfl
  simp [tab]
  refine (areFacts_ok R w K hmv (hw.fr h3)).mono fun r K1 ⟨⟨t, g1, g2⟩, g3⟩ => ?_
  subst g1
  cases t with
  | false =>
    have hn : ¬ GoodFs R := fun h => by cases g2.2 h
    simp [tab]
    exact ⟨.nil, by simp [flowRes, hn], ⟨[], by simpa [flowRes, hn] using GOwn.nil (enc := Fct.enc) K1⟩, h3.trans g3⟩
  | true =>
  have hV := g2.1 rfl
  simp [tab]
  refine (flowFacts_ok f ws fv R w true K1 hg hV (hv.fr (h3.trans g3)) (hw.fr (h3.trans g3))).mono fun r K2 ⟨⟨us, x1, _⟩, _, x3⟩ => ?_
  simp [tab]
  exact ⟨r, by simp [flowRes, hg, hV], ⟨us, by simpa [flowRes, hg, hV] using x1⟩, (h3.trans g3).trans x3⟩
set_option maxRecDepth 100000 in
theorem specWay_ok (f : List Bk) (ws : List AV) (fv : AV) (R : List Fct) (w : AV) (H : Hp) (hm : f.length ≤ 1048576) (hmm : ∀ t ∈ f, t.code.length ≤ 1048576) (hmv : R.length ≤ 1048576) (hv : FRow H fv f ws) (hw : Row 3 H w (fcts R)) : T Try.prog 43 [fv, w] H (GridAt true f R H) := by
  refine T.by tabOk Try.func43 (by kernel_rfl) rfl _ (by simp [Try.f43]) H _ ?_
  simp [Try.f43]
  refine (goodFlow_ok f ws fv H hm hmm hv).mono fun r K ⟨⟨t, h1, h2⟩, h3⟩ => ?_
  subst h1
  cases t with
  | false =>
    have hn : ¬ GoodF f := fun h => by cases h2.2 h
    simp [tab]
    exact ⟨.nil, by simp [flowRes, hn], ⟨[], by simpa [flowRes, hn] using GOwn.nil (enc := Fct.enc) K⟩, h3⟩
  | true =>
  have hg := h2.1 rfl
  simp [tab]
  refine (l5Facts_ok R w K hmv (hw.fr h3)).mono fun r K1 ⟨⟨t, g1, g2⟩, g3⟩ => ?_
  subst g1
  cases t with
  | false =>
    have hn : ¬ GoodFs R := fun h => by cases g2.2 h
    simp [tab]
    exact ⟨.nil, by simp [flowRes, hn], ⟨[], by simpa [flowRes, hn] using GOwn.nil (enc := Fct.enc) K1⟩, h3.trans g3⟩
  | true =>
  have hV := g2.1 rfl
  simp [tab]
  refine (l5All_ok f ws fv R w true K1 hg hV (hv.fr (h3.trans g3)) (hw.fr (h3.trans g3))).mono fun r K2 ⟨⟨us, x1, _⟩, _, x3⟩ => ?_
  simp [tab]
  exact ⟨r, by simp [flowRes, hg, hV], ⟨us, by simpa [flowRes, hg, hV] using x1⟩, (h3.trans g3).trans x3⟩
set_option maxRecDepth 100000 in
theorem implPlain_ok (f : List Bk) (ws : List AV) (fv : AV) (R : List Fct) (w : AV) (H : Hp) (hm : f.length ≤ 1048576) (hmm : ∀ t ∈ f, t.code.length ≤ 1048576) (hmv : R.length ≤ 1048576) (hv : FRow H fv f ws) (hw : Row 3 H w (fcts R)) : T Try.prog 44 [fv, w] H (GridAt false f R H) := by
  refine T.by tabOk Try.func44 (by kernel_rfl) rfl _ (by simp [Try.f44]) H _ ?_
  simp [Try.f44]
  refine (isFlow_ok f ws fv H hm hmm hv).mono fun r K ⟨⟨t, h1, h2⟩, h3⟩ => ?_
  subst h1
  cases t with
  | false =>
    have hn : ¬ GoodF f := fun h => by cases h2.2 h
    simp [tab]
    exact ⟨.nil, by simp [flowRes, hn], ⟨[], by simpa [flowRes, hn] using GOwn.nil (enc := Fct.enc) K⟩, h3⟩
  | true =>
  have hg := h2.1 rfl
  simp [tab]
  refine (areFacts_ok R w K hmv (hw.fr h3)).mono fun r K1 ⟨⟨t, g1, g2⟩, g3⟩ => ?_
  subst g1
  cases t with
  | false =>
    have hn : ¬ GoodFs R := fun h => by cases g2.2 h
    simp [tab]
    exact ⟨.nil, by simp [flowRes, hn], ⟨[], by simpa [flowRes, hn] using GOwn.nil (enc := Fct.enc) K1⟩, h3.trans g3⟩
  | true =>
  have hV := g2.1 rfl
  simp [tab]
  refine (flowFacts_ok f ws fv R w false K1 hg hV (hv.fr (h3.trans g3)) (hw.fr (h3.trans g3))).mono fun r K2 ⟨⟨us, x1, _⟩, _, x3⟩ => ?_
  simp [tab]
  exact ⟨r, by simp [flowRes, hg, hV], ⟨us, by simpa [flowRes, hg, hV] using x1⟩, (h3.trans g3).trans x3⟩
set_option maxRecDepth 100000 in
theorem specPlain_ok (f : List Bk) (ws : List AV) (fv : AV) (R : List Fct) (w : AV) (H : Hp) (hm : f.length ≤ 1048576) (hmm : ∀ t ∈ f, t.code.length ≤ 1048576) (hmv : R.length ≤ 1048576) (hv : FRow H fv f ws) (hw : Row 3 H w (fcts R)) : T Try.prog 45 [fv, w] H (GridAt false f R H) := by
  refine T.by tabOk Try.func45 (by kernel_rfl) rfl _ (by simp [Try.f45]) H _ ?_
  simp [Try.f45]
  refine (goodFlow_ok f ws fv H hm hmm hv).mono fun r K ⟨⟨t, h1, h2⟩, h3⟩ => ?_
  subst h1
  cases t with
  | false =>
    have hn : ¬ GoodF f := fun h => by cases h2.2 h
    simp [tab]
    exact ⟨.nil, by simp [flowRes, hn], ⟨[], by simpa [flowRes, hn] using GOwn.nil (enc := Fct.enc) K⟩, h3⟩
  | true =>
  have hg := h2.1 rfl
  simp [tab]
  refine (l5Facts_ok R w K hmv (hw.fr h3)).mono fun r K1 ⟨⟨t, g1, g2⟩, g3⟩ => ?_
  subst g1
  cases t with
  | false =>
    have hn : ¬ GoodFs R := fun h => by cases g2.2 h
    simp [tab]
    exact ⟨.nil, by simp [flowRes, hn], ⟨[], by simpa [flowRes, hn] using GOwn.nil (enc := Fct.enc) K1⟩, h3.trans g3⟩
  | true =>
  have hV := g2.1 rfl
  simp [tab]
  refine (l5All_ok f ws fv R w false K1 hg hV (hv.fr (h3.trans g3)) (hw.fr (h3.trans g3))).mono fun r K2 ⟨⟨us, x1, _⟩, _, x3⟩ => ?_
  simp [tab]
  exact ⟨r, by simp [flowRes, hg, hV], ⟨us, by simpa [flowRes, hg, hV] using x1⟩, (h3.trans g3).trans x3⟩
set_option maxRecDepth 100000 in
theorem below_ok (a b : Fct) (H : Hp) : T Try.prog 49 [.agg a.enc, .agg b.enc] H (fun r K => r = .bool (decide (belowF a b)) ∧ Fr H K) := by
  refine T.by tabOk Try.func49 (by kernel_rfl) rfl _ (by simp [Try.f49]) H _ ?_
  obtain ⟨t, k, n⟩ := a
  obtain ⟨t', k', n'⟩ := b
  cases t with
  | true =>
    simp [Try.f49, tab, Fct.enc, loadB, belowF]
    exact Fr.app _ _
  | false =>
    by_cases h : t' = false ∧ k = k' ∧ n = n'
    · obtain ⟨rfl, rfl, rfl⟩ := h
      simp [Try.f49, tab, Fct.enc, loadB, belowF]
      exact Fr.app _ _
    · cases t' with
      | true => simp [Try.f49, tab, Fct.enc, loadB, belowF]; exact Fr.app _ _
      | false =>
        simp at h
        by_cases h2 : k = k'
        · have h3 := h h2
          cases k' <;> simp [Try.f49, tab, Fct.enc, loadB, belowF, h2, h3] <;> exact Fr.app _ _
        · cases k <;> cases k' <;> simp at h2 <;> simp [Try.f49, tab, Fct.enc, loadB, belowF] <;> exact Fr.app _ _
theorem sameFact_ok (R : List Fct) (v v' : AV) (H : Hp) (hm : R.length ≤ 1048576) (hv : Row 3 H v (fcts R)) (hv' : Row 3 H v' (fcts R)) : T Try.prog 55 [v, v'] H (fun r K => r = .bool true ∧ K = H) := by
  refine T.by tabOk Try.func55 (by kernel_rfl) rfl _ (by simp [Try.f55]) H _ ?_
  have hlen := hv.len 62
  have hlen' := hv'.len 62
  simp [Try.f55, tab, hlen, hlen']
  refine W_loop _ fun I hI => ?_
  have key : ∀ (r p : List Fct) (ts : TS), R = p ++ r → (ts 0 = v ∧ ts 1 = v' ∧ ts 12 = .int .i64 R.length ∧ ts 13 = .int .i64 p.length) → I ts H := by
    intro r
    induction r with
    | nil =>
      intro p ts e hts
      apply hI
      simp at e
      subst e
      simp [hts, tab]
    | cons a r ih =>
      intro p ts e hts
      apply hI
      have hlt : (p.length : Int) < R.length := by simp [e]; omega
      obtain ⟨b, q, _, e1, e2, -⟩ := hv.get (tab := tab) (e := 62) (ety := tF) rfl (i := p.length) (a := a) (by simp [e]) .i64
      obtain ⟨b', q', _, e1', e2', -⟩ := hv'.get (tab := tab) (e := 62) (ety := tF) rfl (i := p.length) (a := a) (by simp [e]) .i64
      have e2 := e2 rfl
      have e2' := e2' rfl
      have hw := wrap64 (x := p.length + 1) (by omega) (by omega)
      have heq := fact_eql a a
      simp only [decide_true] at heq
      simp [hts, tab, hlt]
      refine W_draw mixed (.look 0 (.look 1 (.look 2 (.look 3 (.look 4 (.look 5 (.look 6 (.look 7 (.look 8 .done))))))))) (by kernel_rfl) ?_
      simp [-eqlA, hts, tab, e1, e2, e1', e2', heq, hw]
      exact ih (p ++ [a]) _ (by simp [e]) (by simp [hts])
  exact key R [] _ rfl (by simp)
theorem sameFacts_ok (S : List (List Fct)) (us us' : List AV) (v v' : AV) (H : Hp) (hm : S.length ≤ 1000) (hmm : ∀ r ∈ S, r.length ≤ 1000) (hv : GOwn Fct.enc H v S us) (hv' : GOwn Fct.enc H v' S us') : T Try.prog 46 [v, v'] H (fun r K => r = .bool true ∧ K = H) := by
  refine T.by tabOk Try.func46 (by kernel_rfl) rfl _ (by simp [Try.f46]) H _ ?_
  have hlen := hv.count 52
  have hlen' := hv'.count 52
  simp [Try.f46, tab, hlen, hlen']
  refine W_loop _ fun I hI => ?_
  have key : ∀ (d k : Nat) (ts : TS), k + d = S.length → (ts 0 = v ∧ ts 1 = v' ∧ ts 12 = .int .i64 S.length ∧ ts 13 = .int .i64 k) → I ts H := by
    intro d
    induction d with
    | zero =>
      intro k ts e hts
      apply hI
      obtain rfl : k = S.length := by omega
      simp [hts, tab]
    | succ d ih =>
      intro k ts e hts
      apply hI
      have hlt : (k : Int) < S.length := by omega
      obtain ⟨b, q, u, _, e1, e2, e3, -⟩ := hv.get (e := 52) (ety := tLF) rfl rfl rfl (i := k) (by omega)
      obtain ⟨b', q', u', _, e1', e2', e3', -⟩ := hv'.get (e := 52) (ety := tLF) rfl rfl rfl (i := k) (by omega)
      have hw := wrap64 (x := (k : Int) + 1) (by omega) (by omega)
      have hrl : (rowG S k).length ≤ 1000 := by
        refine hmm _ (List.mem_of_getElem? (i := k) ?_)
        unfold rowG
        rw [List.getD_eq_getElem?_getD, List.getElem?_eq_getElem (by omega)]
        rfl
      simp [hts, tab, hlt]
      refine W_draw mixed (.look 0 (.look 1 (.look 2 (.look 3 (.look 4 (.look 5 (.look 6 (.look 7 (.act 8 [] (.look 9 .done) .stop))))))))) (by kernel_rfl) ?_
      simp [hts, tab, e1, e2, e1', e2']
      refine (sameFact_ok (rowG S k) u u' H (by omega) e3.row e3'.row).mono fun y K ⟨y1, y2⟩ => ?_
      subst y1 y2
      simp [hts, tab, e1, e2, e1', e2', hw]
      exact ih (k + 1) _ (by omega) (by simp [hts])
  exact key S.length 0 _ (by omega) (by simp)
theorem implGoodFlow_ok (l : List Bk) (us : List AV) (v : AV) (H : Hp) (hm : l.length ≤ 1048576) (hmm : ∀ t ∈ l, t.code.length ≤ 1048576) (hv : FRow H v l us) : T Try.prog 47 [v] H (Says (GoodF l) H) := by
  refine T.by tabOk Try.func47 (by kernel_rfl) rfl _ (by simp [Try.f47]) H _ ?_
  simp [Try.f47]
  refine (isFlow_ok l us v H hm hmm hv).mono fun r K h => ?_
  simpa using h
end Go.Proofs.Ytdbnokeegocpbaa.Am
