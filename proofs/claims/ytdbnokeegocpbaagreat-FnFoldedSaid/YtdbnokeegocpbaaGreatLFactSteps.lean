/- Facts behind code: both ways to reckon them come to the same. No condition. -/
import Derived.Test.YtdbnokeegocpbaaGreatLFacts
namespace Go.Proofs.YtdbnokeegocpbaaGreat.Am
open Go Go.RowKit
set_option linter.unusedSimpArgs false
set_option linter.unusedVariables false

theorem fcts_three (R : List Fct) : ∀ e ∈ fcts R, e.length = 3 := by
  intro e he
  obtain ⟨r, _, rfl⟩ := List.mem_map.1 he
  rfl
/-- A copy of ranges. -/
theorem copyF {H : Hp} {w : AV} {R : List Fct} (hw : Row 3 H w (fcts R)) (hl : R.length ≤ 1000) :
    ∃ u K', appendA 3 16 (H ++ [some ⟨3, true, []⟩]) (.sl H.length 0 0) w = some (u, K') ∧ Own 3 K' u (fcts R) ∧ Fresh H.length u ∧ Fr H K' := by
  have o0 : Own 3 (H ++ [some ⟨3, true, []⟩]) (.sl H.length 0 0) (fcts []) := by
    have := Own.new (sz := 3) (K := H) (es := fcts []) (fcts_three _)
    simpa [fcts] using this
  have f0 := Fr.app H [some ⟨3, true, []⟩]
  obtain ⟨u, K', a1, a2, a3, a4⟩ := o0.append (bytes := 16) (x := w) (new := fcts R) (by decide) (by have := (hw.fr f0).whole; simpa using this) (fcts_three R) (by simp; omega) (by simp; omega)
  refine ⟨u, K', a1, by simpa [fcts] using a2, fun b hb => ?_, Fr.then f0 a3 fun b hb => by cases hb; exact Nat.le_refl _⟩
  rcases a4 b hb with h | h
  · cases h; exact Nat.le_refl _
  · simp at h; omega
/-- A range of a row is put. -/
theorem Own.putF {K : Hp} {u : AV} {R : List Fct} (h : Own 3 K u (fcts R)) {i : Int} (h0 : 0 ≤ i) (h1 : i < R.length) (x : Fct) : ∃ b, indexAddrA tab (.slice 35) K u (.int .i64 i) = some (.ptr b (i.toNat * 3)) ∧ ∃ K', storeA tF K (.ptr b (i.toNat * 3)) (.agg x.enc) = some K' ∧ Own 3 K' u (fcts (R.set i.toNat x)) ∧ Keeps u.at K K' ∧ K'.length = K.length := by
  obtain ⟨k, rfl⟩ := Int.eq_ofNat_of_zero_le h0
  have hk : k < R.length := by omega
  obtain ⟨b, hb, f1, f2⟩ := h.store (tab := tab) (e := 35) (ety := tF) rfl (i := k) (c := R[k].enc) (by simp [hk]) .i64
  obtain ⟨K', f3, f4, f5, f6⟩ := f2 tF 0 (.agg x.enc) rfl rfl (by decide)
  refine ⟨b, by simpa using f1, K', by simpa using f3, ?_, f5, f6⟩
  have e : (fcts R).set k (over R[k].enc 0 (AV.agg x.enc).cells) = fcts (R.set k x) := by simp [fcts, List.map_set, Fct.enc, over]
  rw [e] at f4
  simpa using f4
set_option maxRecDepth 100000 in
theorem stepFacts_ok (l : List Ins) (R : List Fct) (v w : AV) (H : Hp) (hg : GoodC l) (hR : GoodFs R) (hv : Row 5 H v (l.map Ins.enc)) (hw : Row 3 H w (fcts R)) : T Tryz.prog 20 [v, w] H (fun r K => Own 3 K r (fcts (stepF l R)) ∧ Fresh H.length r ∧ Fr H K) := by
  refine T.by tabOk Tryz.func20 (by kernel_rfl) rfl _ (by simp [Tryz.f20]) H _ ?_
  have hlen := hv.len 53
  have hl30 := hg.1
  have hR8 := hR.1
  obtain ⟨u, K0, a1, a2, a3, a4⟩ := copyF hw (by omega)
  simp [Tryz.f20, tab, hlen, buildSliceA, zerosA, a1]
  refine W_loop _ fun I hI => ?_
  have key : ∀ (r p : List Ins) (S : List Fct) (ts : TS) (K : Hp) (u : AV), l = p ++ r → stepF r S = stepF l R → GoodFs S → Own 3 K u (fcts S) → Fresh H.length u → Fr H K → (ts 5 = u ∧ ts 11 = v ∧ ts 12 = .int .i64 l.length ∧ ts 13 = .int .i64 p.length) → I ts K := by
    intro r
    induction r with
    | nil =>
      intro p S ts K u e hS hSg ho hf hK hts
      apply hI
      simp at e
      subst e
      simp [hts, tab]
      rw [← hS]
      exact ⟨ho, hf, hK⟩
    | cons x r ih =>
      intro p S ts K u e hS hSg ho hf hK hts
      apply hI
      have hlt : (p.length : Int) < l.length := by simp [e]; omega
      obtain ⟨b, q, _, e1, e2, -⟩ := (hv.fr hK).get (tab := tab) (e := 53) (ety := tN) rfl (i := p.length) (a := x) (by simp [e]) .i64
      have e2 := e2 rfl
      have hw1 := wrap64 (x := p.length + 1) (by simp [e] at hl30; omega) (by simp [e] at hl30; omega)
      have hx := hg.2 x (by simp [e])
      have hS8 := hSg.1
      have fB := Fr.app K [some ⟨5, true, x.enc⟩]
      have ho1 := ho.fr fB
      have hlK := hK.1
      have next : ∀ (S' : List Fct) (ts : TS) (K' : Hp), S' = stepF1 S x → Own 3 K' u (fcts S') → Fr H K' → (ts 5 = u ∧ ts 11 = v ∧ ts 12 = .int .i64 l.length ∧ ts 13 = .int .i64 ((p ++ [x]).length : Nat)) → I ts K' := fun S' ts K' hS' ho' hK' hts => ih (p ++ [x]) S' ts K' u (by simp [e]) (by rw [hS', ← hS]; rfl) (hS' ▸ stepF1_good hSg hx) ho' hf hK' hts
      by_cases o8 : x.op = 8
      · simp only [Ins.enc] at e2 fB ho1
        simp (maxDischargeDepth := 9) [hts, tab, hlt, e1, e2, Ins.enc, loadB, hw1, o8]
        exact next S _ _ (by simp [stepF1, o8]) (by rw [o8] at ho1; exact ho1) (by rw [o8] at fB; exact hK.trans fB) (by simp [hts])
      have hd := hx.names.1
      obtain ⟨K1, hK1⟩ : ∃ K1, K1 = K ++ [some ⟨5, true, x.enc⟩] := ⟨_, rfl⟩
      rw [← hK1] at fB ho1
      have hx0 : K1[K.length]? = some (some ⟨5, true, x.enc⟩) := by rw [hK1]; simp
      have g0 : loadA tN K1 (.ptr K.length 0) = some (.agg x.enc) := by simp [loadA, hx0, Ins.enc]
      have g1 : loadA tI K1 (.ptr K.length 0) = some (.int .i64 x.op) := load_at hx0 rfl rfl rfl
      have g2 : loadA tI K1 (.ptr K.length 1) = some (.int .i64 x.dst) := load_at hx0 rfl rfl rfl
      simp only [Ins.enc] at hK1 e2
      simp (maxDischargeDepth := 9) [-load_new, -load_new0, hts, tab, hlt, e1, e2, ← hK1, g1, o8]
      refine W_draw mixed (.look 0 (.look 1 (.look 2 (.look 3 (.look 4 (.act 5 [2] (.look 6 (.act 7 [] .done .stop)) .stop)))))) (by kernel_rfl) ?_
      simp (maxDischargeDepth := 9) [hts, tab, g0, g2]
      refine (fact_ok x S u K1 hx o8 hS8 ho1.row).mono fun y K2 ⟨y1, f2⟩ => ?_
      subst y1
      have ho2 := ho1.fr f2
      obtain ⟨c, q1, K', q2, q3, q4, q5⟩ := ho2.putF hd.1 (by unfold Nm at hd; omega) (factI x S)
      have hl1 : loadA tI K2 (.ptr K.length 1) = some (.int .i64 x.dst) := load_at (f2.2 _ _ hx0 id) rfl rfl rfl
      simp (maxDischargeDepth := 9) [hts, tab, hw1, q1, q2, hl1]
      exact next _ _ _ (by simp [stepF1, o8]) q3 (Fr.then ((hK.trans fB).trans f2) q4 hf) (by simp [hts])
  exact key l [] R _ K0 u rfl rfl hR a2 a3 a4 (by simp)
set_option maxRecDepth 100000 in
theorem l5Step_ok (l : List Ins) (R : List Fct) (v w : AV) (H : Hp) (hg : GoodC l) (hR : GoodFs R) (hv : Row 5 H v (l.map Ins.enc)) (hw : Row 3 H w (fcts R)) : T Tryz.prog 24 [v, w] H (fun r K => Own 3 K r (fcts (stepF l R)) ∧ Fresh H.length r ∧ Fr H K) := by
  refine T.by tabOk Tryz.func24 (by kernel_rfl) rfl _ (by simp [Tryz.f24]) H _ ?_
  have hlen := hv.len 53
  have hl30 := hg.1
  have hR8 := hR.1
  obtain ⟨u, K0, a1, a2, a3, a4⟩ := copyF hw (by omega)
  simp [Tryz.f24, tab, hlen, buildSliceA, zerosA, a1]
  refine W_loop _ fun I hI => ?_
  have key : ∀ (r p : List Ins) (S : List Fct) (ts : TS) (K : Hp) (u : AV), l = p ++ r → stepF r S = stepF l R → GoodFs S → Own 3 K u (fcts S) → Fresh H.length u → Fr H K → (ts 5 = u ∧ ts 11 = v ∧ ts 12 = .int .i64 l.length ∧ ts 13 = .int .i64 p.length) → I ts K := by
    intro r
    induction r with
    | nil =>
      intro p S ts K u e hS hSg ho hf hK hts
      apply hI
      simp at e
      subst e
      simp [hts, tab]
      rw [← hS]
      exact ⟨ho, hf, hK⟩
    | cons x r ih =>
      intro p S ts K u e hS hSg ho hf hK hts
      apply hI
      have hlt : (p.length : Int) < l.length := by simp [e]; omega
      obtain ⟨b, q, _, e1, e2, -⟩ := (hv.fr hK).get (tab := tab) (e := 53) (ety := tN) rfl (i := p.length) (a := x) (by simp [e]) .i64
      have e2 := e2 rfl
      have hw1 := wrap64 (x := p.length + 1) (by simp [e] at hl30; omega) (by simp [e] at hl30; omega)
      have hx := hg.2 x (by simp [e])
      have hS8 := hSg.1
      have fB := Fr.app K [some ⟨5, true, x.enc⟩]
      have ho1 := ho.fr fB
      have hlK := hK.1
      have next : ∀ (S' : List Fct) (ts : TS) (K' : Hp), S' = stepF1 S x → Own 3 K' u (fcts S') → Fr H K' → (ts 5 = u ∧ ts 11 = v ∧ ts 12 = .int .i64 l.length ∧ ts 13 = .int .i64 ((p ++ [x]).length : Nat)) → I ts K' := fun S' ts K' hS' ho' hK' hts => ih (p ++ [x]) S' ts K' u (by simp [e]) (by rw [hS', ← hS]; rfl) (hS' ▸ stepF1_good hSg hx) ho' hf hK' hts
      have hnm := hx.names
      have hgx := hx
      obtain ⟨op, dst, a, b', n⟩ := x
      simp only [Ins.enc] at e2 fB ho1
      simp only at hnm
      by_cases o8 : op = 8
      · subst o8
        simp (maxDischargeDepth := 9) [hts, tab, hlt, e1, e2, Ins.enc, loadB, hw1]
        refine (l3Two_ok 8 _).mono fun y K1 ⟨y1, y2⟩ => ?_
        subst y1 y2
        simp (maxDischargeDepth := 9) [hts, tab, hw1]
        exact next S _ _ (by simp [stepF1]) ho1 (hK.trans fB) (by simp [hts])
      by_cases o1 : op = 1
      · subst o1
        obtain ⟨c, q1, K', q2, q3, q4, q5⟩ := ho1.putF hnm.1.1 (by have := hnm.1; unfold Nm at this; omega) (isF n)
        simp only [Fct.enc] at q2
        simp (maxDischargeDepth := 9) [hts, tab, hlt, e1, e2, Ins.enc, loadB, hw1, fillA, over, q1, q2]
        exact next _ _ _ (by simp [stepF1, factI]) q3 (Fr.then (hK.trans fB) q4 hf) (by simp [hts])
      by_cases o2 : op = 2
      · subst o2
        obtain ⟨b2, q0, x1, x2⟩ := getF ho1.row hS8 hnm.2.1
        obtain ⟨c, q1, K', q2, q3, q4, q5⟩ := ho1.putF hnm.1.1 (by have := hnm.1; unfold Nm at this; omega) (fc S a)
        simp (maxDischargeDepth := 9) [hts, tab, hlt, e1, e2, Ins.enc, loadB, hw1]
        refine W_draw mixed (.look 0 (.look 1 (.look 2 (.look 3 (.look 4 (.look 5 (.look 6 (.look 7 (.look 8 (.act 9 [] .done .stop)))))))))) (by kernel_rfl) ?_
        simp (maxDischargeDepth := 9) [hts, tab, loadB, hw1, x1, x2, q1, q2]
        exact next _ _ _ (by simp [stepF1, factI]) q3 (Fr.then (hK.trans fB) q4 hf) (by simp [hts])
      have h4 : 3 ≤ op ∧ op ≤ 7 := by
        rcases hgx with g | g | g | g
        · exact absurd g.1 o1
        · exact absurd g.1 o2
        · exact absurd g.1 o8
        · exact ⟨g.1, g.2.1⟩
      obtain ⟨b2, q0, x1, x2⟩ := getF ho1.row hS8 hnm.2.1
      obtain ⟨b3, q3', x3, x4⟩ := getF ho1.row hS8 hnm.2.2
      simp (maxDischargeDepth := 9) [hts, tab, hlt, e1, e2, Ins.enc, loadB, hw1, o1, o2, o8]
      refine (l3Two_ok op _).mono fun y K1 ⟨y1, y2⟩ => ?_
      subst y1 y2
      simp only [decide_eq_true h4]
      simp (maxDischargeDepth := 9) [hts, tab, hw1]
      refine W_draw mixed (.look 0 (.look 1 (.look 2 (.look 3 (.look 4 (.look 5 (.look 6 (.look 7 (.look 8 (.look 9 (.look 10 (.look 11 (.look 12 (.look 13 (.look 14 (.act 15 [2] (.look 16 (.act 17 [] .done .stop)) .stop)))))))))))))))) (by kernel_rfl) ?_
      simp (maxDischargeDepth := 9) [hts, tab, loadB, hw1, x1, x2, x3, x4]
      refine (l5Two_ok op (fc S a) (fc S b') _ h4).mono fun y K1 ⟨y1, f1⟩ => ?_
      subst y1
      have ho2 := ho1.fr f1
      obtain ⟨c, q1, K', q2, q3, q4, q5⟩ := ho2.putF hnm.1.1 (by have := hnm.1; unfold Nm at this; omega) (twoF op (fc S a) (fc S b'))
      have hl1 : loadA tI K1 (.ptr K.length 1) = some (.int .i64 dst) := by rw [f1.load (by simp [loadB])]; simp [loadB]
      simp (maxDischargeDepth := 9) [hts, tab, loadB, hw1, q1, q2, hl1]
      exact next _ _ _ (by simp [stepF1, factI, o1, o2, o8]) q3 (Fr.then ((hK.trans fB).trans f1) q4 hf) (by simp [hts])
  exact key l [] R _ K0 u rfl rfl hR a2 a3 a4 (by simp)
theorem l5Facts_ok (R : List Fct) (w : AV) (H : Hp) (hm : R.length ≤ 1048576) (hw : Row 3 H w (fcts R)) : T Tryz.prog 22 [w] H (Says (GoodFs R) H) := by
  refine T.by tabOk Tryz.func22 (by kernel_rfl) rfl _ (by simp [Tryz.f22]) H _ ?_
  have hlen := hw.len 35
  simp [Tryz.f22, tab, hlen]
  refine W_loop _ fun I hI => ?_
  have key : ∀ (r p : List Fct) (ts : TS) (K : Hp), R = p ++ r → Fr H K → (∀ x ∈ p, GoodFc x ∧ x.top = false) → (ts 0 = w ∧ ts 5 = w ∧ ts 6 = .int .i64 R.length ∧ ts 7 = .int .i64 p.length) → I ts K := by
    intro r
    induction r with
    | nil =>
      intro p ts K e hK hp hts
      apply hI
      simp at e
      subst e
      simp [hts, tab, hlen]
      refine Says.beq ?_ hK
      constructor
      · intro h; exact ⟨by omega, hp⟩
      · intro h; have := h.1; omega
    | cons a r ih =>
      intro p ts K e hK hp hts
      apply hI
      have hlt : (p.length : Int) < R.length := by simp [e]; omega
      obtain ⟨b, q, _, e1, e2, -⟩ := (hw.fr hK).get (tab := tab) (e := 35) (ety := tF) rfl (i := p.length) (a := a) (by simp [e]) .i64
      have e2 := e2 rfl
      have hw1 := wrap64 (x := p.length + 1) (by omega) (by omega)
      have fB := Fr.app K [some ⟨3, true, a.enc⟩]
      simp (maxDischargeDepth := 9) [hts, tab, hlt, e1, e2, Fct.enc, loadB]
      refine (goodFact_ok a _).mono fun y K1 ⟨y1, f1⟩ => ?_
      subst y1
      have f2 : Fr H K1 := hK.trans (fB.trans f1)
      have hx0 : (K ++ [some ⟨3, true, a.enc⟩])[K.length]? = some (some ⟨3, true, a.enc⟩) := by simp
      have q0 : loadA tFB K1 (.ptr K.length 0) = some (.bool a.top) := load_at (f1.2 _ _ hx0 id) rfl rfl rfl
      by_cases hg : GoodFc a ∧ a.top = false
      · simp [hts, hw1, tab, hg, q0]
        exact ih (p ++ [a]) _ _ (by simp [e]) f2 (fun x hx => by
          rcases List.mem_append.1 hx with hx | hx
          · exact hp x hx
          · simp at hx; subst hx; exact hg) (by simp [hts])
      · have hno : Says (GoodFs R) H (.bool false) K1 := Says.no (fun h => hg (h.2 a (by simp [e]))) f2
        by_cases hg1 : GoodFc a
        · have ht : a.top = true := by
            cases h : a.top with
            | true => rfl
            | false => exact absurd ⟨hg1, h⟩ hg
          simp [hts, hw1, tab, hg1, q0, ht]
          exact hno
        · simp [hts, hw1, tab, hg1]
          exact hno
  exact key R [] _ H rfl (Fr.refl H) (by simp) (by simp)
def AsksFct (g : FuncId) (caps : List AV) (p : Fct → Bool) (H : Hp) : Prop := ∀ (K : Hp) (m : Fct), Fr H K → T Tryz.prog g (.agg m.enc :: caps) K (fun r K' => r = .bool (p m) ∧ Fr K K')
theorem indexFct_ok (l : List Fct) (v : AV) (g : FuncId) (caps : List AV) (p : Fct → Bool) (H : Hp) (hm : l.length ≤ 1048576) (hv : Row 3 H v (l.map Fct.enc)) (hf : AsksFct g caps p H) : T Tryz.prog 79 [v, .fn g caps] H (fun r K => (∃ i : Int, r = .int .i64 i ∧ (0 ≤ i ↔ ∃ m ∈ l, p m = true)) ∧ Fr H K) := by
  refine T.by tabOk Tryz.func79 (by kernel_rfl) rfl _ (by simp [Tryz.f79]) H _ ?_
  have hlen := hv.len 35
  simp [Tryz.f79, tab, hlen]
  refine W_loop _ fun I hI => ?_
  have key : ∀ (r q : List Fct) (ts : TS) (K : Hp), l = q ++ r → Fr H K → (∀ m ∈ q, p m = false) → (ts 0 = v ∧ ts 1 = .fn g caps ∧ ts 7 = .int .i64 l.length ∧ ts 8 = .int .i64 q.length) → I ts K := by
    intro r
    induction r with
    | nil =>
      intro q ts K e hK hq hts
      apply hI
      simp at e
      subst e
      simp [hts, tab]
      exact ⟨fun m hm => by simp [hq m hm], hK⟩
    | cons a r ih =>
      intro q ts K e hK hq hts
      apply hI
      have hlt : (q.length : Int) < l.length := by simp [e]; omega
      obtain ⟨b, o, _, e1, e2, -⟩ := (hv.fr hK).get (tab := tab) (e := 35) (ety := tF) rfl (i := q.length) (a := a) (by simp [e]) .i64
      have e2 := e2 rfl
      have hw := wrap64 (x := q.length + 1) (by omega) (by omega)
      simp (maxDischargeDepth := 9) [hts, tab, hlt, e1, e2]
      refine (hf K a hK).mono fun y K1 ⟨y1, f1⟩ => ?_
      subst y1
      cases hp : p a with
      | true =>
        simp [hts, hp]
        exact ⟨⟨a, by simp [e], hp⟩, hK.trans f1⟩
      | false =>
        simp [hts, hp, hw]
        exact ih (q ++ [a]) _ _ (by simp [e]) (hK.trans f1) (fun m hm => by
          rcases List.mem_append.1 hm with hm | hm
          · exact hq m hm
          · simp at hm; subst hm; exact hp) (by simp [hts])
  exact key l [] _ H rfl (Fr.refl H) (by simp) (by simp)
theorem containsFct_ok (l : List Fct) (v : AV) (g : FuncId) (caps : List AV) (p : Fct → Bool) (H : Hp) (hm : l.length ≤ 1048576) (hv : Row 3 H v (l.map Fct.enc)) (hf : AsksFct g caps p H) : T Tryz.prog 49 [v, .fn g caps] H (fun r K => (∃ t, r = .bool t ∧ (t = true ↔ ∃ m ∈ l, p m = true)) ∧ Fr H K) := by
  refine T.by tabOk Tryz.func49 (by kernel_rfl) rfl _ (by simp [Tryz.f49]) H _ ?_
  simp [Tryz.f49]
  refine (indexFct_ok l v g caps p H hm hv hf).mono fun r K ⟨⟨i, e1, e2⟩, e3⟩ => ?_
  subst e1
  by_cases h0 : 0 ≤ i
  · simp [tab, h0]
    exact ⟨e2.1 h0, e3⟩
  · simp [tab, h0]
    refine ⟨fun x hx => ?_, e3⟩
    cases hp : p x with
    | false => rfl
    | true => exact absurd (e2.2 ⟨x, hx, hp⟩) h0
theorem badFct_ok (H : Hp) : AsksFct 50 [] (fun x => decide (¬ (GoodFc x ∧ x.top = false))) H := by
  intro K m hK
  refine T.by tabOk Tryz.func50 (by kernel_rfl) rfl _ (by simp [Tryz.f50]) K _ ?_
  have fB := Fr.app K [some ⟨3, true, m.enc⟩]
  simp [Tryz.f50, tab, Fct.enc, loadB]
  refine (isFact_ok m _).mono fun r K1 ⟨y1, f1⟩ => ?_
  subst y1
  have hx0 : (K ++ [some ⟨3, true, m.enc⟩])[K.length]? = some (some ⟨3, true, m.enc⟩) := by simp
  have q0 : loadA tFB K1 (.ptr K.length 0) = some (.bool m.top) := load_at (f1.2 _ _ hx0 id) rfl rfl rfl
  by_cases hg : GoodFc m
  · cases ht : m.top <;> simp [tab, hg, q0, ht] <;> exact fB.trans f1
  · simp [tab, hg]
    exact fB.trans f1
theorem areFacts_ok (R : List Fct) (w : AV) (H : Hp) (hm : R.length ≤ 1048576) (hw : Row 3 H w (fcts R)) : T Tryz.prog 17 [w] H (Says (GoodFs R) H) := by
  refine T.by tabOk Tryz.func17 (by kernel_rfl) rfl _ (by simp [Tryz.f17]) H _ ?_
  have hlen := hw.len 35
  by_cases h8 : R.length = 8
  case neg =>
    have h8' : ¬ (R.length : Int) = 8 := by omega
    simp [Tryz.f17, tab, hlen, h8']
    exact Says.no (fun h => h8 h.1) (Fr.refl H)
  simp [Tryz.f17, tab, hlen, h8]
  refine (containsFct_ok R w _ [] _ H hm hw (badFct_ok H)).mono fun r K ⟨⟨t, e1, e2⟩, e3⟩ => ?_
  subst e1
  cases t with
  | true =>
    simp
    refine Says.no (fun h => ?_) e3
    obtain ⟨m, hm1, hm2⟩ := e2.1 rfl
    exact (of_decide_eq_true hm2) (h.2 m hm1)
  | false =>
    simp
    refine Says.yes ⟨h8, fun x hx => ?_⟩ e3
    refine Classical.byContradiction fun hn => ?_
    have := e2.2 ⟨x, hx, decide_eq_true hn⟩
    cases this
end Go.Proofs.YtdbnokeegocpbaaGreat.Am
