/- The laws' own helpers for code. No condition. -/
import Derived.Test.YtdbnokeegocpbaaLCode
namespace Go.Proofs.Ytdbnokeegocpbaa.Am
open Go Go.RowKit
set_option linter.unusedSimpArgs false
set_option linter.unusedVariables false

theorem toInstr_ok (e : Ins) (H : Hp) : T Try.prog 88 [.agg e.enc] H (fun r H' => r = .agg e.enc ∧ Fr H H') := by
  refine T.by tabOk Try.func88 (by kernel_rfl) rfl _ (by simp [Try.f88]) H _ ?_
  simp [Try.f88, tab, Ins.enc]
  exact Fr.app _ _
theorem eqInstr_ok (a b : Ins) (H : Hp) : T Try.prog 94 [.agg a.enc, .agg b.enc] H (fun r H' => r = .bool (decide (a = b)) ∧ Fr H H') := by
  refine T.by tabOk Try.func94 (by kernel_rfl) rfl _ (by simp [Try.f94]) H _ ?_
  obtain ⟨a1, a2, a3, a4, a5⟩ := a
  obtain ⟨b1, b2, b3, b4, b5⟩ := b
  by_cases h1 : a1 = b1
  case neg => simp [Try.f94, tab, Ins.enc, h1]; exact Fr.app _ _
  by_cases h2 : a2 = b2
  case neg => simp [Try.f94, tab, Ins.enc, h1, h2]; exact Fr.app _ _
  by_cases h3 : a3 = b3
  case neg => simp [Try.f94, tab, Ins.enc, h1, h2, h3]; exact Fr.app _ _
  by_cases h4 : a4 = b4
  case neg => simp [Try.f94, tab, Ins.enc, h1, h2, h3, h4]; exact Fr.app _ _
  by_cases h5 : a5 = b5 <;> simp [Try.f94, tab, Ins.enc, h1, h2, h3, h4, h5] <;> exact Fr.app _ _
theorem toInstrS_ok (l : List Ins) (v : AV) (H : Hp) (hm : l.length ≤ 1048576) (hv : Row 5 H v (l.map Ins.enc)) : T Try.prog 25 [v] H (fun r H' => Own 5 H' r (l.map Ins.enc) ∧ Fresh H.length r ∧ Fr H H') := by
  refine T.by tabOk Try.func25 (by kernel_rfl) rfl _ (by simp [Try.f25]) H _ ?_
  have hlen := hv.len 104
  obtain ⟨K0, m1, m2, m3⟩ := make_ok (ety := tN) (K := H) (n := l.length) rfl (by decide) (by simp; omega) (by omega)
  simp [Try.f25, tab, hlen, m1]
  refine W_loop _ fun I hI => ?_
  have key : ∀ (r p : List Ins) (ts : TS) (K : Hp) (out : AV), l = p ++ r → Fr H K → Fresh H.length out → Own 5 K out (p.map Ins.enc ++ List.replicate r.length tN.zero) → (ts 0 = v ∧ ts 3 = out ∧ ts 4 = .int .i64 p.length) → I ts K := by
    intro r
    induction r with
    | nil =>
      intro p ts K out hl hK hf ho hts
      apply hI
      simp at hl
      subst hl
      simp (maxDischargeDepth := 9) [hts, hlen, tab]
      exact ⟨by simpa using ho, hf, hK⟩
    | cons a r ih =>
      intro p ts K out hl hK hf ho hts
      apply hI
      have hlt : (p.length : Int) < l.length := by simp [hl]; omega
      obtain ⟨b, q, hb, e1, e2, -⟩ := hv.get (tab := tab) (e := 104) (ety := tN) rfl (i := p.length) (a := a) (by simp [hl]) .i64
      have e2 := e2 rfl
      simp (maxDischargeDepth := 9) [hts, hlen, tab, hlt, hK.index, hK.load, e1, e2]
      refine (toInstr_ok a K).mono fun x K1 ⟨hx, h1⟩ => ?_
      subst hx
      obtain ⟨b', rfl, f1, f2⟩ := (ho.fr h1).store (tab := tab) (e := 102) (ety := tN) rfl (i := p.length) (c := tN.zero) (by simp) .i64
      obtain ⟨K2, f3, f4, f5, f6⟩ := f2 tN 0 (.agg a.enc) rfl rfl (by decide)
      have hw := wrap64 (x := p.length + 1) (by omega) (by omega)
      simp at f1 f3
      simp (maxDischargeDepth := 9) [hts, tab, f1, f3, hw]
      refine ih (p ++ [a]) _ _ _ (by simp [hl]) (Fr.then (hK.trans h1) f5 hf) hf ?_ (by simp (maxDischargeDepth := 9) [hts])
      have e : (List.map Ins.enc p ++ List.replicate (a :: r).length tN.zero).set p.length (over tN.zero 0 a.enc) = List.map Ins.enc (p ++ [a]) ++ List.replicate r.length tN.zero := by
        simp [List.replicate_succ, Ins.enc]
      simp only [AV.cells, e] at f4
      exact f4
  refine key l [] _ _ _ rfl m3 ?_ ?_ ⟨rfl, rfl, rfl⟩
  · intro b hb; cases hb; exact Nat.le_refl _
  · simpa using m2
theorem eqInstrS_ok (l l' : List Ins) (v v' : AV) (H : Hp) (hm : l.length ≤ 1048576) (hv : Row 5 H v (l.map Ins.enc)) (hv' : Row 5 H v' (l'.map Ins.enc)) : T Try.prog 28 [v, v'] H (fun r H' => r = .bool (decide (l = l')) ∧ Fr H H') := by
  refine T.by tabOk Try.func28 (by kernel_rfl) rfl _ (by simp [Try.f28]) H _ ?_
  have hlen := hv.len 102
  have hlen' := hv'.len 102
  by_cases hl : l.length = l'.length
  case neg =>
    have hne : (l.length : Int) ≠ l'.length := by omega
    have hne2 : l ≠ l' := fun e => hl (by rw [e])
    simp [Try.f28, tab, hlen, hlen', hne, hne2]
    exact Fr.refl H
  simp [Try.f28, tab, hlen, hlen', hl]
  refine W_loop _ fun I hI => ?_
  have key : ∀ (r p r' : List Ins) (ts : TS) (K : Hp), l = p ++ r → l' = p ++ r' → Fr H K → (ts 0 = v ∧ ts 1 = v' ∧ ts 5 = .int .i64 p.length) → I ts K := by
    intro r
    induction r with
    | nil =>
      intro p r' ts K e e' hK hts
      apply hI
      obtain _ | ⟨a', r'⟩ := r'
      case cons => simp [e, e'] at hl
      simp at e e'
      subst e e'
      simp (maxDischargeDepth := 9) [hts, hlen, tab, hK]
    | cons a r ih =>
      intro p r' ts K e e' hK hts
      obtain _ | ⟨a', r'⟩ := r'
      · simp [e, e'] at hl
      apply hI
      have hlt : (p.length : Int) < l.length := by simp [e]; omega
      obtain ⟨b, q, hb, e1, e2, -⟩ := hv.get (tab := tab) (e := 102) (ety := tN) rfl (i := p.length) (a := a) (by simp [e]) .i64
      have e2 := e2 rfl
      obtain ⟨b', q', hb', e1', e2', -⟩ := hv'.get (tab := tab) (e := 102) (ety := tN) rfl (i := p.length) (a := a') (by simp [e']) .i64
      have e2' := e2' rfl
      simp (maxDischargeDepth := 9) [hts, hlen, tab, hlt]
      refine W_draw mixed (.look 0 (.look 1 (.look 2 (.look 3 (.look 4 (.look 5 (.look 6 (.look 7 (.act 8 [] (.look 9 .done) .stop))))))))) (by kernel_rfl) ?_
      simp (maxDischargeDepth := 9) [hts, hlen, tab, hlt, hK.index, hK.load, e1, e2, e1', e2']
      refine (eqInstr_ok a a' K).mono fun x K1 ⟨hx, h1⟩ => ?_
      subst hx
      by_cases ha : a = a'
      · subst ha
        have hw := wrap64 (x := p.length + 1) (by omega) (by omega)
        simp (maxDischargeDepth := 9) [hts, hw]
        exact ih (p ++ [a]) r' _ _ (by simp [e]) (by simp [e']) (hK.trans h1) (by simp (maxDischargeDepth := 9) [hts])
      · simp [ha, hts, e, e']
        exact hK.trans h1
  exact key l [] l' _ _ rfl rfl (Fr.refl H) (by simp)
theorem szInstrS_ok (l : List Ins) (v : AV) (H : Hp) (hm : l.length ≤ 140737488355328) (hv : Row 5 H v (l.map Ins.enc)) : T Try.prog 23 [v, .int .i64 1048576] H (fun r K => r = .int .i64 (if 1048576 < l.length then -1 else 1048576 - l.length) ∧ K = H) := by
  refine T.by tabOk Try.func23 (by kernel_rfl) rfl _ (by simp [Try.f23]) H _ ?_
  have hlen := hv.len 104
  have hw := wrap64 (x := 1048576 - l.length) (by omega) (by omega)
  by_cases h : 1048576 < l.length
  · have h' : (1048576 : Int) - l.length < 0 := by omega
    simp [Try.f23, tab, hlen, hw, h, h']
  · have h' : ¬ (1048576 : Int) - l.length < 0 := by omega
    simp [Try.f23, tab, hlen, hw, h, h']
/-- One word of a field is put into a row of code. -/
theorem Own.setIns {K : Hp} {v : AV} {m : List Ins} (h : Own 5 K v (inss m)) {k : Nat} (hk : k < m.length) {j : Nat} (hj : j < 5) (x : Int) : ∃ b, indexAddrA tab (.slice 102) K v (.int .i64 k) = some (.ptr b (k * 5)) ∧ ∃ K', storeA tI K (.ptr b (k * 5 + j)) (.int .i64 x) = some K' ∧ (∃ m' : List Ins, m'.length = m.length ∧ Own 5 K' v (inss m')) ∧ Keeps v.at K K' := by
  obtain ⟨b, hb, f1, f2⟩ := h.store (tab := tab) (e := 102) (ety := tN) rfl (i := k) (c := m[k].enc) (by simp [hk]) .i64
  obtain ⟨K', f3, f4, f5, f6⟩ := f2 tI j (.int .i64 x) rfl rfl (by show j + 1 ≤ 5; omega)
  refine ⟨b, by simpa using f1, K', by simpa using f3, ?_, f5⟩
  have hy : ∃ y : Ins, over m[k].enc j [.int .i64 x] = y.enc := by
    obtain ⟨a, b, d, e, f⟩ := m[k]
    match j, hj with
    | 0, _ => exact ⟨⟨x, b, d, e, f⟩, rfl⟩
    | 1, _ => exact ⟨⟨a, x, d, e, f⟩, rfl⟩
    | 2, _ => exact ⟨⟨a, b, x, e, f⟩, rfl⟩
    | 3, _ => exact ⟨⟨a, b, d, x, f⟩, rfl⟩
    | 4, _ => exact ⟨⟨a, b, d, e, x⟩, rfl⟩
  obtain ⟨y, hy⟩ := hy
  refine ⟨m.set k y, by simp, ?_⟩
  have e : (inss m).set k (over m[k].enc j (AV.int .i64 x).cells) = inss (m.set k y) := by
    show (inss m).set k (over m[k].enc j [.int .i64 x]) = _
    rw [hy]
    simp [inss, List.map_set]
  rw [e] at f4
  exact f4
set_option maxRecDepth 100000 in
theorem markInstrS_ok (l : List Ins) (v : AV) (H : Hp) (hm : l.length ≤ 1048576) (hv : Own 5 H v (inss l)) : T Try.prog 29 [v, .int .i64 1] H (fun r K => r = .int .i64 (1 + 5 * l.length) ∧ Keeps v.at H K) := by
  refine T.by tabOk Try.func29 (by kernel_rfl) rfl _ (by simp [Try.f29]) H _ ?_
  simp [Try.f29]
  refine W_loop _ fun I hI => ?_
  have key : ∀ (d k : Nat) (ts : TS) (K : Hp) (m : List Ins), k + d = l.length → m.length = l.length → Own 5 K v (inss m) → Keeps v.at H K → (ts 0 = v ∧ ts 1 = .int .i64 (1 + 5 * k) ∧ ts 5 = .int .i64 k) → I ts K := by
    intro d
    induction d with
    | zero =>
      intro k ts K m e hl ho hK hts
      apply hI
      have hlen := ho.row.len 102
      obtain rfl : k = l.length := by omega
      simp [hts, tab, hlen, hl]
      exact hK
    | succ d ih =>
      intro k ts K m e hl ho hK hts
      apply hI
      have hlen := ho.row.len 102
      have hlt : (k : Int) < l.length := by omega
      obtain ⟨b0, p0, K0, q0, ⟨m0, n0, o0⟩, r0⟩ := ho.setIns (k := k) (by omega) (j := 0) (by omega) (1 + 5 * k)
      obtain ⟨b1, p1, K1, q1, ⟨m1, n1, o1⟩, r1⟩ := o0.setIns (k := k) (by omega) (j := 1) (by omega) (1 + 5 * k + 1)
      obtain ⟨b2, p2, K2, q2, ⟨m2, n2, o2⟩, r2⟩ := o1.setIns (k := k) (by omega) (j := 2) (by omega) (1 + 5 * k + 1 + 1)
      obtain ⟨b3, p3, K3, q3, ⟨m3, n3, o3⟩, r3⟩ := o2.setIns (k := k) (by omega) (j := 3) (by omega) (1 + 5 * k + 1 + 1 + 1)
      obtain ⟨b4, p4, K4, q4, ⟨m4, n4, o4⟩, r4⟩ := o3.setIns (k := k) (by omega) (j := 4) (by omega) (1 + 5 * k + 1 + 1 + 1 + 1)
      have hw1 := wrap64 (x := 1 + 5 * k + 1) (by omega) (by omega)
      have hw2 := wrap64 (x := 1 + 5 * k + 1 + 1) (by omega) (by omega)
      have hw3 := wrap64 (x := 1 + 5 * k + 1 + 1 + 1) (by omega) (by omega)
      have hw4 := wrap64 (x := 1 + 5 * k + 1 + 1 + 1 + 1) (by omega) (by omega)
      have hw5 := wrap64 (x := 1 + 5 * k + 1 + 1 + 1 + 1 + 1) (by omega) (by omega)
      have hw6 := wrap64 (x := k + 1) (by omega) (by omega)
      simp at q0
      simp (maxDischargeDepth := 9) [hts, tab, hlen, hl, hlt, p0, q0, p1, q1, p2, q2, p3, q3, p4, q4, hw1, hw2, hw3, hw4, hw5, hw6]
      exact ih (k + 1) _ K4 m4 (by omega) (by omega) o4 (((((hK.trans r0).trans r1).trans r2).trans r3).trans r4) (by simp [hts]; omega)
  exact key l.length 0 _ H l (by omega) rfl hv (Keeps.refl _ _) (by simp)
theorem inss_open (H : Hp) (x : AV) (h : SSl 5 40 (SPair (SInt .i64) (SPair (SInt .i64) (SPair (SInt .i64) (SPair (SInt .i64) (SInt .i64))))) H [x]) : ∃ l, Row 5 H x (inss l) ∧ l.length ≤ 140737488355328 := by
  obtain ⟨v, es, e1, h1, h2, h3, h4⟩ := h
  cases e1
  obtain ⟨l, rfl, hl⟩ := map_of_all (enc := Ins.enc) (q := fun _ => True) (es := es) (fun e he => by
    obtain ⟨_, _, rfl, ⟨a, rfl, _⟩, _, _, rfl, ⟨b, rfl, _⟩, _, _, rfl, ⟨c, rfl, _⟩, _, _, rfl, ⟨d, rfl, _⟩, ⟨f, rfl, _⟩⟩ := h4 e he
    exact ⟨⟨a, b, c, d, f⟩, rfl, trivial⟩)
  exact ⟨l, h1, by simp at h3; omega⟩
theorem ints_open (H : Hp) (x : AV) (h : SSl 1 8 (SInt .i64) H [x]) : ∃ l, Row 1 H x (ints l) ∧ l.length ≤ 140737488355328 := by
  obtain ⟨v, es, e1, h1, h2, h3, h4⟩ := h
  cases e1
  obtain ⟨xs, rfl, _⟩ := map_of_all (enc := fun x : Int => [AV.int .i64 x]) (q := fun _ => True) (es := es) (fun e he => by
    obtain ⟨n, rfl, _⟩ := h4 e he
    exact ⟨n, rfl, trivial⟩)
  exact ⟨xs, h1, by simp at h3; omega⟩
end Go.Proofs.Ytdbnokeegocpbaa.Am
