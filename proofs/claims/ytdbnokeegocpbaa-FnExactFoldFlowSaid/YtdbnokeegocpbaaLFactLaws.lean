/- The laws' own helpers for facts. No condition. -/
import Derived.Test.YtdbnokeegocpbaaLFactSteps
namespace Go.Proofs.Ytdbnokeegocpbaa.Am
open Go Go.RowKit
set_option linter.unusedSimpArgs false
set_option linter.unusedVariables false

theorem toFact_ok (e : Fct) (H : Hp) : T Try.prog 128 [.agg e.enc] H (fun r H' => r = .agg e.enc ∧ Fr H H') := by
  refine T.by tabOk Try.func128 (by kernel_rfl) rfl _ (by simp [Try.f128]) H _ ?_
  simp [Try.f128, tab, Fct.enc]
  exact Fr.app _ _
theorem eqFact_ok (a b : Fct) (H : Hp) : T Try.prog 129 [.agg a.enc, .agg b.enc] H (fun r H' => r = .bool (decide (a = b)) ∧ Fr H H') := by
  refine T.by tabOk Try.func129 (by kernel_rfl) rfl _ (by simp [Try.f129]) H _ ?_
  obtain ⟨a1, a2, a3⟩ := a
  obtain ⟨b1, b2, b3⟩ := b
  by_cases h1 : a1 = b1
  case neg => cases a1 <;> cases b1 <;> simp at h1 <;> simp [Try.f129, tab, Fct.enc] <;> exact Fr.app _ _
  subst h1
  by_cases h2 : a2 = b2
  case neg => cases a1 <;> cases a2 <;> cases b2 <;> simp at h2 <;> simp [Try.f129, tab, Fct.enc] <;> exact Fr.app _ _
  subst h2
  by_cases h3 : a3 = b3 <;> cases a1 <;> cases a2 <;> simp [Try.f129, tab, Fct.enc, h3] <;> exact Fr.app _ _
theorem toFactS_ok (l : List Fct) (v : AV) (H : Hp) (hm : l.length ≤ 1048576) (hv : Row 3 H v (l.map Fct.enc)) : T Try.prog 71 [v] H (fun r H' => Own 3 H' r (l.map Fct.enc) ∧ Fresh H.length r ∧ Fr H H') := by
  refine T.by tabOk Try.func71 (by kernel_rfl) rfl _ (by simp [Try.f71]) H _ ?_
  have hlen := hv.len 133
  obtain ⟨K0, m1, m2, m3⟩ := make_ok (ety := tF) (K := H) (n := l.length) rfl (by decide) (by simp; omega) (by omega)
  simp [Try.f71, tab, hlen, m1]
  refine W_loop _ fun I hI => ?_
  have key : ∀ (r p : List Fct) (ts : TS) (K : Hp) (out : AV), l = p ++ r → Fr H K → Fresh H.length out → Own 3 K out (p.map Fct.enc ++ List.replicate r.length tF.zero) → (ts 0 = v ∧ ts 3 = out ∧ ts 4 = .int .i64 p.length) → I ts K := by
    intro r
    induction r with
    | nil =>
      intro p ts K out hl hK hf ho hts
      apply hI
      simp at hl
      subst hl
      simp (maxDischargeDepth := 9) [hts, hlen, tab]
      exact ⟨by simpa using ho, hf, hK⟩
    | cons a r ih =>
      intro p ts K out hl hK hf ho hts
      apply hI
      have hlt : (p.length : Int) < l.length := by simp [hl]; omega
      obtain ⟨b, q, hb, e1, e2, -⟩ := hv.get (tab := tab) (e := 133) (ety := tF) rfl (i := p.length) (a := a) (by simp [hl]) .i64
      have e2 := e2 rfl
      simp (maxDischargeDepth := 9) [hts, hlen, tab, hlt, hK.index, hK.load, e1, e2]
      refine (toFact_ok a K).mono fun x K1 ⟨hx, h1⟩ => ?_
      subst hx
      obtain ⟨b', rfl, f1, f2⟩ := (ho.fr h1).store (tab := tab) (e := 62) (ety := tF) rfl (i := p.length) (c := tF.zero) (by simp) .i64
      obtain ⟨K2, f3, f4, f5, f6⟩ := f2 tF 0 (.agg a.enc) rfl rfl (by decide)
      have hw := wrap64 (x := p.length + 1) (by omega) (by omega)
      simp at f1 f3
      simp (maxDischargeDepth := 9) [hts, tab, f1, f3, hw]
      refine ih (p ++ [a]) _ _ _ (by simp [hl]) (Fr.then (hK.trans h1) f5 hf) hf ?_ (by simp (maxDischargeDepth := 9) [hts])
      have e : (List.map Fct.enc p ++ List.replicate (a :: r).length tF.zero).set p.length (over tF.zero 0 a.enc) = List.map Fct.enc (p ++ [a]) ++ List.replicate r.length tF.zero := by
        simp [List.replicate_succ, Fct.enc]
      simp only [AV.cells, e] at f4
      exact f4
  refine key l [] _ _ _ rfl m3 ?_ ?_ ⟨rfl, rfl, rfl⟩
  · intro b hb; cases hb; exact Nat.le_refl _
  · simpa using m2
theorem eqFactS_ok (l l' : List Fct) (v v' : AV) (H : Hp) (hm : l.length ≤ 1048576) (hv : Row 3 H v (l.map Fct.enc)) (hv' : Row 3 H v' (l'.map Fct.enc)) : T Try.prog 73 [v, v'] H (fun r H' => r = .bool (decide (l = l')) ∧ Fr H H') := by
  refine T.by tabOk Try.func73 (by kernel_rfl) rfl _ (by simp [Try.f73]) H _ ?_
  have hlen := hv.len 62
  have hlen' := hv'.len 62
  by_cases hl : l.length = l'.length
  case neg =>
    have hne : (l.length : Int) ≠ l'.length := by omega
    have hne2 : l ≠ l' := fun e => hl (by rw [e])
    simp [Try.f73, tab, hlen, hlen', hne, hne2]
    exact Fr.refl H
  simp [Try.f73, tab, hlen, hlen', hl]
  refine W_loop _ fun I hI => ?_
  have key : ∀ (r p r' : List Fct) (ts : TS) (K : Hp), l = p ++ r → l' = p ++ r' → Fr H K → (ts 0 = v ∧ ts 1 = v' ∧ ts 5 = .int .i64 p.length) → I ts K := by
    intro r
    induction r with
    | nil =>
      intro p r' ts K e e' hK hts
      apply hI
      obtain _ | ⟨a', r'⟩ := r'
      case cons => simp [e, e'] at hl
      simp at e e'
      subst e e'
      simp (maxDischargeDepth := 9) [hts, hlen, tab, hK]
    | cons a r ih =>
      intro p r' ts K e e' hK hts
      obtain _ | ⟨a', r'⟩ := r'
      · simp [e, e'] at hl
      apply hI
      have hlt : (p.length : Int) < l.length := by simp [e]; omega
      obtain ⟨b, q, hb, e1, e2, -⟩ := hv.get (tab := tab) (e := 62) (ety := tF) rfl (i := p.length) (a := a) (by simp [e]) .i64
      have e2 := e2 rfl
      obtain ⟨b', q', hb', e1', e2', -⟩ := hv'.get (tab := tab) (e := 62) (ety := tF) rfl (i := p.length) (a := a') (by simp [e']) .i64
      have e2' := e2' rfl
      simp (maxDischargeDepth := 9) [hts, hlen, tab, hlt]
      refine W_draw mixed (.look 0 (.look 1 (.look 2 (.look 3 (.look 4 (.look 5 (.look 6 (.look 7 (.act 8 [] (.look 9 .done) .stop))))))))) (by kernel_rfl) ?_
      simp (maxDischargeDepth := 9) [hts, hlen, tab, hlt, hK.index, hK.load, e1, e2, e1', e2']
      refine (eqFact_ok a a' K).mono fun x K1 ⟨hx, h1⟩ => ?_
      subst hx
      by_cases ha : a = a'
      · subst ha
        have hw := wrap64 (x := p.length + 1) (by omega) (by omega)
        simp (maxDischargeDepth := 9) [hts, hw]
        exact ih (p ++ [a]) r' _ _ (by simp [e]) (by simp [e']) (hK.trans h1) (by simp (maxDischargeDepth := 9) [hts])
      · simp [ha, hts, e, e']
        exact hK.trans h1
  exact key l [] l' _ _ rfl rfl (Fr.refl H) (by simp)
theorem szFactS_ok (l : List Fct) (v : AV) (left : Int) (H : Hp) (h1 : -1 ≤ left) (h2 : left ≤ 1048576) (hm : l.length ≤ 140737488355328) (hv : Row 3 H v (l.map Fct.enc)) : T Try.prog 69 [v, .int .i64 left] H (fun r K => r = .int .i64 (if left < l.length then -1 else left - l.length) ∧ K = H) := by
  refine T.by tabOk Try.func69 (by kernel_rfl) rfl _ (by simp [Try.f69]) H _ ?_
  have hlen := hv.len 133
  have hw := wrap64 (x := left - l.length) (by omega) (by omega)
  by_cases h : left < l.length
  · have h' : left - (l.length : Int) < 0 := by omega
    simp [Try.f69, tab, hlen, hw, h, h']
  · have h' : ¬ left - (l.length : Int) < 0 := by omega
    simp [Try.f69, tab, hlen, hw, h, h']
/-- A field is put into a row of facts. -/
theorem Own.setFct {K : Hp} {v : AV} {m : List Fct} (h : Own 3 K v (fcts m)) {k : Nat} (hk : k < m.length) :
    ∃ b, indexAddrA tab (.slice 62) K v (.int .i64 k) = some (.ptr b (k * 3)) ∧ (∀ x : Bool, ∃ K', storeA tFB K (.ptr b (k * 3)) (.bool x) = some K' ∧ (∃ m' : List Fct, m'.length = m.length ∧ Own 3 K' v (fcts m')) ∧ Keeps v.at K K') ∧ (∀ x : Bool, ∃ K', storeA tFB K (.ptr b (k * 3 + 1)) (.bool x) = some K' ∧ (∃ m' : List Fct, m'.length = m.length ∧ Own 3 K' v (fcts m')) ∧ Keeps v.at K K') ∧
      ∀ x : Int, ∃ K', storeA tI K (.ptr b (k * 3 + 2)) (.int .i64 x) = some K' ∧ (∃ m' : List Fct, m'.length = m.length ∧ Own 3 K' v (fcts m')) ∧ Keeps v.at K K' := by
  obtain ⟨b, hb, f1, f2⟩ := h.store (tab := tab) (e := 62) (ety := tF) rfl (i := k) (c := m[k].enc) (by simp [hk]) .i64
  have fin : ∀ (y : Fct) (o : Nat) (c : List AV), over m[k].enc o c = y.enc → (fcts m).set k (over m[k].enc o c) = fcts (m.set k y) := by
    intro y o c e
    rw [e]
    simp [fcts, List.map_set]
  refine ⟨b, by simpa using f1, fun x => ?_, fun x => ?_, fun x => ?_⟩
  · obtain ⟨K', f3, f4, f5, f6⟩ := f2 tFB 0 (.bool x) rfl rfl (by decide)
    refine ⟨K', by simpa using f3, ⟨m.set k ⟨x, m[k].known, m[k].n⟩, by simp, ?_⟩, f5⟩
    rw [← fin ⟨x, m[k].known, m[k].n⟩ 0 [.bool x] rfl]
    exact f4
  · obtain ⟨K', f3, f4, f5, f6⟩ := f2 tFB 1 (.bool x) rfl rfl (by decide)
    refine ⟨K', by simpa using f3, ⟨m.set k ⟨m[k].top, x, m[k].n⟩, by simp, ?_⟩, f5⟩
    rw [← fin ⟨m[k].top, x, m[k].n⟩ 1 [.bool x] rfl]
    exact f4
  · obtain ⟨K', f3, f4, f5, f6⟩ := f2 tI 2 (.int .i64 x) rfl rfl (by decide)
    refine ⟨K', by simpa using f3, ⟨m.set k ⟨m[k].top, m[k].known, x⟩, by simp, ?_⟩, f5⟩
    rw [← fin ⟨m[k].top, m[k].known, x⟩ 2 [.int .i64 x] rfl]
    exact f4
set_option maxRecDepth 100000 in
theorem markFactS_ok (l : List Fct) (v : AV) (k0 : Int) (H : Hp) (hk0 : 0 ≤ k0) (hk1 : k0 ≤ 1099511627776000) (hm : l.length ≤ 1048576) (hv : Own 3 H v (fcts l)) : T Try.prog 74 [v, .int .i64 k0] H (fun r K => r = .int .i64 (k0 + 3 * l.length) ∧ Keeps v.at H K) := by
  refine T.by tabOk Try.func74 (by kernel_rfl) rfl _ (by simp [Try.f74]) H _ ?_
  simp [Try.f74]
  refine W_loop _ fun I hI => ?_
  have key : ∀ (d k : Nat) (ts : TS) (K : Hp) (m : List Fct), k + d = l.length → m.length = l.length → Own 3 K v (fcts m) → Keeps v.at H K → (ts 0 = v ∧ ts 1 = .int .i64 (k0 + 3 * k) ∧ ts 5 = .int .i64 k) → I ts K := by
    intro d
    induction d with
    | zero =>
      intro k ts K m e hl ho hK hts
      apply hI
      have hlen := ho.row.len 62
      obtain rfl : k = l.length := by omega
      simp [hts, tab, hlen, hl]
      exact hK
    | succ d ih =>
      intro k ts K m e hl ho hK hts
      apply hI
      have hlen := ho.row.len 62
      have hlt : (k : Int) < l.length := by omega
      obtain ⟨b0, p0, c0, -, -⟩ := ho.setFct (k := k) (by omega)
      obtain ⟨K0, q0, ⟨m0, n0, o0⟩, r0⟩ := c0 (decide ((k0 + 3 * k).tmod 3 = 0))
      obtain ⟨b1, p1, -, c1, -⟩ := o0.setFct (k := k) (by omega)
      obtain ⟨K1, q1, ⟨m1, n1, o1⟩, r1⟩ := c1 (decide ((k0 + 3 * k + 1).tmod 3 = 0))
      obtain ⟨b2, p2, -, -, c2⟩ := o1.setFct (k := k) (by omega)
      obtain ⟨K2, q2, ⟨m2, n2, o2⟩, r2⟩ := c2 (k0 + 3 * k + 1 + 1)
      have hw1 := wrap64 (x := k0 + 3 * k + 1) (by omega) (by omega)
      have hw2 := wrap64 (x := k0 + 3 * k + 1 + 1) (by omega) (by omega)
      have hw3 := wrap64 (x := k0 + 3 * k + 1 + 1 + 1) (by omega) (by omega)
      have hw6 := wrap64 (x := k + 1) (by omega) (by omega)
      have d0 : ((k0 + 3 * k).tmod 3 == 0) = decide ((k0 + 3 * k).tmod 3 = 0) := rfl
      have d1 : ((k0 + 3 * k + 1).tmod 3 == 0) = decide ((k0 + 3 * k + 1).tmod 3 = 0) := rfl
      simp (maxDischargeDepth := 9) [hts, tab, hlen, hl, hlt, d0, d1, p0, q0, p1, q1, p2, q2, hw1, hw2, hw3, hw6]
      exact ih (k + 1) _ K2 m2 (by omega) (by omega) o2 (((hK.trans r0).trans r1).trans r2) (by simp [hts]; omega)
  exact key l.length 0 _ H l (by omega) rfl hv (Keeps.refl _ _) (by simp)
theorem fcts_open (H : Hp) (x : AV) (h : SSl 3 16 (SPair SBool (SPair SBool (SInt .i64))) H [x]) : ∃ l, Row 3 H x (fcts l) ∧ l.length ≤ 140737488355328 := by
  obtain ⟨v, es, e1, h1, h2, h3, h4⟩ := h
  cases e1
  obtain ⟨l, rfl, hl⟩ := map_of_all (enc := Fct.enc) (q := fun _ => True) (es := es) (fun e he => by
    obtain ⟨_, _, rfl, ⟨a, rfl⟩, _, _, rfl, ⟨b, rfl⟩, ⟨c, rfl, _⟩⟩ := h4 e he
    exact ⟨⟨a, b, c⟩, rfl, trivial⟩)
  exact ⟨l, h1, by simp at h3; omega⟩
end Go.Proofs.Ytdbnokeegocpbaa.Am
