/- Ranges behind code: both ways to reckon them come to the same. No condition. -/
import Derived.Test.YtfndikfaibbjoaaLCode
import Derived.Test.YtfndikfaibbjoaaLSpans
namespace Go.Proofs.Ytfndikfaibbjoaa.Am
open Go Go.RowKit
set_option linter.unusedSimpArgs false
set_option linter.unusedVariables false

def rg (R : List Rng) (i : Int) : Rng := R.getD i.toNat ⟨false, 0, 0⟩
def stepOne (R : List Rng) (x : Ins) : List Rng :=
  if x.op = 1 then R.set x.dst.toNat ⟨false, x.n, x.n⟩
  else if x.op = 2 then R.set x.dst.toNat (rg R x.a)
  else if 3 ≤ x.op ∧ x.op ≤ 7 then R.set x.dst.toNat (twoR x.op (rg R x.a) (rg R x.b))
  else R
def stepR (l : List Ins) (R : List Rng) : List Rng := l.foldl stepOne R
def GoodRs (R : List Rng) : Prop := R.length = 8 ∧ ∀ r ∈ R, GoodR r
theorem spanR_good {lo hi : Int} (h : lo ≤ hi) : GoodR (spanR lo hi) := by
  unfold spanR
  split
  · exact .inr ⟨rfl, by simp, by simp, by simp⟩
  · exact .inr ⟨rfl, by simp; omega, by simpa using h, by simp; omega⟩
theorem twoR_good (op : Int) {a b : Rng} (ha : GoodR a) (hb : GoodR b) : GoodR (twoR op a b) := by
  unfold twoR
  split
  · exact .inl ⟨rfl, rfl, rfl⟩
  rename_i hem
  have ha' : a.em = false ∧ 0 ≤ a.lo ∧ a.lo ≤ a.hi ∧ a.hi ≤ 65535 := by
    rcases ha with h | h
    · exact absurd (.inl h.1) hem
    · exact h
  have hb' : b.em = false ∧ 0 ≤ b.lo ∧ b.lo ≤ b.hi ∧ b.hi ≤ 65535 := by
    rcases hb with h | h
    · exact absurd (.inr h.1) hem
    · exact h
  split
  · exact spanR_good (by omega)
  split
  · exact spanR_good (by omega)
  split
  · exact spanR_good (Int.mul_le_mul ha'.2.2.1 hb'.2.2.1 hb'.2.1 (by omega))
  split
  · split
    · exact .inr ⟨rfl, by simp, by simp, by simp⟩
    · split <;> exact .inr ⟨rfl, by simp, by simp, by simp⟩
  split
  · split <;> exact .inr ⟨rfl, by simp, by simp, by simp⟩
  · exact .inr ⟨rfl, by simp, by simp, by simp⟩
theorem rg_get {R : List Rng} (h : R.length = 8) {i : Int} (hi : Nm i) : R[i.toNat]? = some (rg R i) := by
  unfold Nm at hi
  rw [rg, List.getD_eq_getElem?_getD, List.getElem?_eq_getElem (by omega)]
  rfl
theorem rg_good {R : List Rng} (h : GoodRs R) {i : Int} (hi : Nm i) : GoodR (rg R i) := h.2 _ (List.mem_of_getElem? (rg_get h.1 hi))
theorem set_good {R : List Rng} (h : GoodRs R) (i : Nat) {x : Rng} (hx : GoodR x) : GoodRs (R.set i x) := ⟨by simpa using h.1, fun r hr => by
  rcases List.mem_or_eq_of_mem_set hr with hr | rfl
  · exact h.2 r hr
  · exact hx⟩
theorem stepOne_good {R : List Rng} (h : GoodRs R) {x : Ins} (hx : GoodI x) : GoodRs (stepOne R x) := by
  unfold stepOne
  split
  · rename_i o
    refine set_good h _ (.inr ⟨rfl, ?_⟩)
    rcases hx with g | g | g | g
    · exact ⟨g.2.2.2.2.1, Int.le_refl _, g.2.2.2.2.2⟩
    · omega
    · omega
    · omega
  split
  · rename_i o
    refine set_good h _ ?_
    rcases hx with g | g | g | g
    · omega
    · exact rg_good h g.2.2.1
    · omega
    · omega
  split
  · rename_i o
    refine set_good h _ ?_
    rcases hx with g | g | g | g
    · omega
    · omega
    · omega
    · exact twoR_good _ (rg_good h g.2.2.2.1) (rg_good h g.2.2.2.2.1)
  · exact h
theorem stepR_good : ∀ (l : List Ins) {R : List Rng}, (∀ x ∈ l, GoodI x) → GoodRs R → GoodRs (stepR l R)
  | [], R, _, h => h
  | x :: l, R, hl, h => stepR_good l (fun y hy => hl y (by simp [hy])) (stepOne_good h (hl x (by simp)))
abbrev rngs (R : List Rng) : List (List AV) := R.map Rng.enc
theorem rngs_three (R : List Rng) : ∀ e ∈ rngs R, e.length = 3 := by
  intro e he
  obtain ⟨r, _, rfl⟩ := List.mem_map.1 he
  rfl
/-- A copy of ranges. -/
theorem copyR {H : Hp} {w : AV} {R : List Rng} (hw : Row 3 H w (rngs R)) (hl : R.length ≤ 1000) :
    ∃ u K', appendA 3 24 (H ++ [some ⟨3, true, []⟩]) (.sl H.length 0 0) w = some (u, K') ∧ Own 3 K' u (rngs R) ∧ Fresh H.length u ∧ Fr H K' := by
  have o0 : Own 3 (H ++ [some ⟨3, true, []⟩]) (.sl H.length 0 0) (rngs []) := by
    have := Own.new (sz := 3) (K := H) (es := rngs []) (rngs_three _)
    simpa [rngs] using this
  have f0 := Fr.app H [some ⟨3, true, []⟩]
  obtain ⟨u, K', a1, a2, a3, a4⟩ := o0.append (bytes := 24) (x := w) (new := rngs R) (by decide) (by have := (hw.fr f0).whole; simpa using this) (rngs_three R) (by simp; omega) (by simp; omega)
  refine ⟨u, K', a1, by simpa [rngs] using a2, fun b hb => ?_, Fr.then f0 a3 fun b hb => by cases hb; exact Nat.le_refl _⟩
  rcases a4 b hb with h | h
  · cases h; exact Nat.le_refl _
  · simp at h; omega
/-- A range of a row is put. -/
theorem Own.putR {K : Hp} {u : AV} {R : List Rng} (h : Own 3 K u (rngs R)) {i : Int} (h0 : 0 ≤ i) (h1 : i < R.length) (x : Rng) : ∃ b, indexAddrA tab (.slice 24) K u (.int .i64 i) = some (.ptr b (i.toNat * 3)) ∧ ∃ K', storeA tR K (.ptr b (i.toNat * 3)) (.agg x.enc) = some K' ∧ Own 3 K' u (rngs (R.set i.toNat x)) ∧ Keeps u.at K K' ∧ K'.length = K.length := by
  obtain ⟨k, rfl⟩ := Int.eq_ofNat_of_zero_le h0
  have hk : k < R.length := by omega
  obtain ⟨b, hb, f1, f2⟩ := h.store (tab := tab) (e := 24) (ety := tR) rfl (i := k) (c := R[k].enc) (by simp [hk]) .i64
  obtain ⟨K', f3, f4, f5, f6⟩ := f2 tR 0 (.agg x.enc) rfl rfl (by decide)
  refine ⟨b, by simpa using f1, K', by simpa using f3, ?_, f5, f6⟩
  have e : (rngs R).set k (over R[k].enc 0 (AV.agg x.enc).cells) = rngs (R.set k x) := by simp [rngs, List.map_set, Rng.enc, over]
  rw [e] at f4
  simpa using f4
theorem getR {K : Hp} {u : AV} {R : List Rng} (h : Row 3 K u (rngs R)) (hl : R.length = 8) {i : Int} (hi : Nm i) : ∃ b q, indexAddrA tab (.slice 24) K u (.int .i64 i) = some (.ptr b q) ∧ loadA tR K (.ptr b q) = some (.agg (rg R i).enc) := by
  obtain ⟨b, q, _, e1, e2, -⟩ := h.get (tab := tab) (e := 24) (ety := tR) rfl (rg_get hl hi) .i64
  unfold Nm at hi
  rw [Int.toNat_of_nonneg hi.1] at e1
  exact ⟨b, q, e1, e2 rfl⟩
set_option maxRecDepth 100000 in
theorem stepRanges_ok (l : List Ins) (R : List Rng) (v w : AV) (H : Hp) (hg : GoodC l) (hR : GoodRs R) (hv : Row 5 H v (l.map Ins.enc)) (hw : Row 3 H w (rngs R)) : T Try.prog 74 [v, w] H (fun r K => Own 3 K r (rngs (stepR l R)) ∧ Fresh H.length r ∧ Fr H K) := by
  refine T.by tabOk Try.func74 (by kernel_rfl) rfl _ (by simp [Try.f74]) H _ ?_
  have hlen := hv.len 94
  have hl30 := hg.1
  have hR8 := hR.1
  obtain ⟨u, K0, a1, a2, a3, a4⟩ := copyR hw (by omega)
  simp [Try.f74, tab, hlen, buildSliceA, zerosA, a1]
  refine W_loop _ fun I hI => ?_
  have key : ∀ (r p : List Ins) (S : List Rng) (ts : TS) (K : Hp) (u : AV), l = p ++ r → stepR r S = stepR l R → GoodRs S → Own 3 K u (rngs S) → Fresh H.length u → Fr H K → (ts 5 = u ∧ ts 11 = v ∧ ts 12 = .int .i64 l.length ∧ ts 13 = .int .i64 p.length) → I ts K := by
    intro r
    induction r with
    | nil =>
      intro p S ts K u e hS hSg ho hf hK hts
      apply hI
      simp at e
      subst e
      simp [hts, tab]
      rw [← hS]
      exact ⟨ho, hf, hK⟩
    | cons x r ih =>
      intro p S ts K u e hS hSg ho hf hK hts
      apply hI
      have hlt : (p.length : Int) < l.length := by simp [e]; omega
      obtain ⟨b, q, _, e1, e2, -⟩ := (hv.fr hK).get (tab := tab) (e := 94) (ety := tN) rfl (i := p.length) (a := x) (by simp [e]) .i64
      have e2 := e2 rfl
      have hw1 := wrap64 (x := p.length + 1) (by simp [e] at hl30; omega) (by simp [e] at hl30; omega)
      have hx := hg.2 x (by simp [e])
      have hS8 := hSg.1
      have fB := Fr.app K [some ⟨5, true, x.enc⟩]
      have ho1 := ho.fr fB
      have hlK := hK.1
      have hub : ∀ b, u.at b → b ≠ K.length := fun b hb => by have := ho.lt b hb; omega
      have next : ∀ (S' : List Rng) (ts : TS) (K' : Hp), S' = stepOne S x → Own 3 K' u (rngs S') → Fr H K' → (ts 5 = u ∧ ts 11 = v ∧ ts 12 = .int .i64 l.length ∧ ts 13 = .int .i64 ((p ++ [x]).length : Nat)) → I ts K' := fun S' ts K' hS' ho' hK' hts => ih (p ++ [x]) S' ts K' u (by simp [e]) (by rw [hS', ← hS]; rfl) (hS' ▸ stepOne_good hSg hx) ho' hf hK' hts
      obtain ⟨op, dst, a, b', n⟩ := x
      simp only [Ins.enc] at e2 fB ho1
      by_cases o8 : op = 8
      · subst o8
        simp (maxDischargeDepth := 9) [hts, tab, hlt, e1, e2, Ins.enc, loadB, hw1]
        exact next S _ _ (by simp [stepOne]) ho1 (hK.trans fB) (by simp [hts])
      by_cases o1 : op = 1
      · subst o1
        have hd : Nm dst := by rcases hx with g | g | g | g <;> simp at g; exact g.1
        obtain ⟨c, q1, K', q2, q3, q4, q5⟩ := ho1.putR hd.1 (by unfold Nm at hd; omega) ⟨false, n, n⟩
        simp only [Rng.enc] at q2
        simp (maxDischargeDepth := 9) [hts, tab, hlt, e1, e2, Ins.enc, loadB, hw1, fillA, over, q1, q2]
        exact next _ _ _ (by simp [stepOne]) q3 (Fr.then (hK.trans fB) q4 hf) (by simp [hts])
      by_cases o2 : op = 2
      · subst o2
        have hd : Nm dst ∧ Nm a := by rcases hx with g | g | g | g <;> simp at g; exact ⟨g.1, g.2.1⟩
        obtain ⟨b2, q0, x1, x2⟩ := getR ho1.row hS8 hd.2
        obtain ⟨c, q1, K', q2, q3, q4, q5⟩ := ho1.putR hd.1.1 (by have := hd.1; unfold Nm at this; omega) (rg S a)
        simp (maxDischargeDepth := 9) [hts, tab, hlt, e1, e2, Ins.enc, loadB, hw1]
        refine W_draw mixed (.look 0 (.look 1 (.look 2 (.look 3 (.look 4 (.look 5 (.look 6 (.look 7 (.look 8 (.act 9 [] .done .stop)))))))))) (by kernel_rfl) ?_
        simp (maxDischargeDepth := 9) [hts, tab, loadB, hw1, x1, x2, q1, q2]
        exact next _ _ _ (by simp [stepOne]) q3 (Fr.then (hK.trans fB) q4 hf) (by simp [hts])
      have h4 : 3 ≤ op ∧ op ≤ 7 ∧ Nm dst ∧ Nm a ∧ Nm b' := by
        rcases hx with g | g | g | g
        · exact absurd g.1 o1
        · exact absurd g.1 o2
        · exact absurd g.1 o8
        · exact ⟨g.1, g.2.1, g.2.2.1, g.2.2.2.1, g.2.2.2.2.1⟩
      obtain ⟨b2, q0, x1, x2⟩ := getR ho1.row hS8 h4.2.2.2.1
      obtain ⟨b3, q3', x3, x4⟩ := getR ho1.row hS8 h4.2.2.2.2
      simp (maxDischargeDepth := 9) [hts, tab, hlt, e1, e2, Ins.enc, loadB, hw1, o1, o2, o8]
      refine W_draw mixed (.look 0 (.look 1 (.look 2 (.look 3 (.look 4 (.look 5 (.look 6 (.look 7 (.look 8 (.look 9 (.look 10 (.look 11 (.look 12 (.look 13 (.look 14 (.act 15 [2] (.look 16 (.act 17 [] .done .stop)) .stop)))))))))))))))) (by kernel_rfl) ?_
      simp (maxDischargeDepth := 9) [hts, tab, loadB, hw1, x1, x2, x3, x4]
      refine (rangeOf_ok op (rg S a) (rg S b') _ (rg_good hSg h4.2.2.2.1) (rg_good hSg h4.2.2.2.2)).mono fun y K1 ⟨y1, f1⟩ => ?_
      subst y1
      have ho2 := ho1.fr f1
      obtain ⟨c, q1, K', q2, q3, q4, q5⟩ := ho2.putR h4.2.2.1.1 (by have := h4.2.2.1; unfold Nm at this; omega) (twoR op (rg S a) (rg S b'))
      have hl1 : loadA tI K1 (.ptr K.length 1) = some (.int .i64 dst) := by rw [f1.load (by simp [loadB])]; simp [loadB]
      simp (maxDischargeDepth := 9) [hts, tab, loadB, hw1, q1, q2, hl1]
      exact next _ _ _ (by simp [stepOne, o1, o2, h4.1, h4.2.1]) q3 (Fr.then ((hK.trans fB).trans f1) q4 hf) (by simp [hts])
  exact key l [] R _ K0 u rfl rfl hR a2 a3 a4 (by simp)
set_option maxRecDepth 100000 in
theorem l6Step_ok (l : List Ins) (R : List Rng) (v w : AV) (H : Hp) (hg : GoodC l) (hR : GoodRs R) (hv : Row 5 H v (l.map Ins.enc)) (hw : Row 3 H w (rngs R)) : T Try.prog 60 [v, w] H (fun r K => Own 3 K r (rngs (stepR l R)) ∧ Fresh H.length r ∧ Fr H K) := by
  refine T.by tabOk Try.func60 (by kernel_rfl) rfl _ (by simp [Try.f60]) H _ ?_
  have hlen := hv.len 94
  have hl30 := hg.1
  have hR8 := hR.1
  obtain ⟨u, K0, a1, a2, a3, a4⟩ := copyR hw (by omega)
  simp [Try.f60, tab, hlen, buildSliceA, zerosA, a1]
  refine W_loop _ fun I hI => ?_
  have key : ∀ (r p : List Ins) (S : List Rng) (ts : TS) (K : Hp) (u : AV), l = p ++ r → stepR r S = stepR l R → GoodRs S → Own 3 K u (rngs S) → Fresh H.length u → Fr H K → (ts 5 = u ∧ ts 11 = v ∧ ts 12 = .int .i64 l.length ∧ ts 13 = .int .i64 p.length) → I ts K := by
    intro r
    induction r with
    | nil =>
      intro p S ts K u e hS hSg ho hf hK hts
      apply hI
      simp at e
      subst e
      simp [hts, tab]
      rw [← hS]
      exact ⟨ho, hf, hK⟩
    | cons x r ih =>
      intro p S ts K u e hS hSg ho hf hK hts
      apply hI
      have hlt : (p.length : Int) < l.length := by simp [e]; omega
      obtain ⟨b, q, _, e1, e2, -⟩ := (hv.fr hK).get (tab := tab) (e := 94) (ety := tN) rfl (i := p.length) (a := x) (by simp [e]) .i64
      have e2 := e2 rfl
      have hw1 := wrap64 (x := p.length + 1) (by simp [e] at hl30; omega) (by simp [e] at hl30; omega)
      have hx := hg.2 x (by simp [e])
      have hS8 := hSg.1
      have fB := Fr.app K [some ⟨5, true, x.enc⟩]
      have ho1 := ho.fr fB
      have hlK := hK.1
      have hub : ∀ b, u.at b → b ≠ K.length := fun b hb => by have := ho.lt b hb; omega
      have next : ∀ (S' : List Rng) (ts : TS) (K' : Hp), S' = stepOne S x → Own 3 K' u (rngs S') → Fr H K' → (ts 5 = u ∧ ts 11 = v ∧ ts 12 = .int .i64 l.length ∧ ts 13 = .int .i64 ((p ++ [x]).length : Nat)) → I ts K' := fun S' ts K' hS' ho' hK' hts => ih (p ++ [x]) S' ts K' u (by simp [e]) (by rw [hS', ← hS]; rfl) (hS' ▸ stepOne_good hSg hx) ho' hf hK' hts
      obtain ⟨op, dst, a, b', n⟩ := x
      simp only [Ins.enc] at e2 fB ho1
      by_cases o8 : op = 8
      · subst o8
        simp (maxDischargeDepth := 9) [hts, tab, hlt, e1, e2, Ins.enc, loadB, hw1]
        refine (l3Two_ok 8 _).mono fun y K1 ⟨y1, y2⟩ => ?_
        subst y1 y2
        simp (maxDischargeDepth := 9) [hts, tab, hw1]
        exact next S _ _ (by simp [stepOne]) ho1 (hK.trans fB) (by simp [hts])
      by_cases o1 : op = 1
      · subst o1
        have hd : Nm dst := by rcases hx with g | g | g | g <;> simp at g; exact g.1
        obtain ⟨c, q1, K', q2, q3, q4, q5⟩ := ho1.putR hd.1 (by unfold Nm at hd; omega) ⟨false, n, n⟩
        simp only [Rng.enc] at q2
        simp (maxDischargeDepth := 9) [hts, tab, hlt, e1, e2, Ins.enc, loadB, hw1, fillA, over, q1, q2]
        exact next _ _ _ (by simp [stepOne]) q3 (Fr.then (hK.trans fB) q4 hf) (by simp [hts])
      by_cases o2 : op = 2
      · subst o2
        have hd : Nm dst ∧ Nm a := by rcases hx with g | g | g | g <;> simp at g; exact ⟨g.1, g.2.1⟩
        obtain ⟨b2, q0, x1, x2⟩ := getR ho1.row hS8 hd.2
        obtain ⟨c, q1, K', q2, q3, q4, q5⟩ := ho1.putR hd.1.1 (by have := hd.1; unfold Nm at this; omega) (rg S a)
        simp (maxDischargeDepth := 9) [hts, tab, hlt, e1, e2, Ins.enc, loadB, hw1]
        refine W_draw mixed (.look 0 (.look 1 (.look 2 (.look 3 (.look 4 (.look 5 (.look 6 (.look 7 (.look 8 (.act 9 [] .done .stop)))))))))) (by kernel_rfl) ?_
        simp (maxDischargeDepth := 9) [hts, tab, loadB, hw1, x1, x2, q1, q2]
        exact next _ _ _ (by simp [stepOne]) q3 (Fr.then (hK.trans fB) q4 hf) (by simp [hts])
      have h4 : 3 ≤ op ∧ op ≤ 7 ∧ Nm dst ∧ Nm a ∧ Nm b' := by
        rcases hx with g | g | g | g
        · exact absurd g.1 o1
        · exact absurd g.1 o2
        · exact absurd g.1 o8
        · exact ⟨g.1, g.2.1, g.2.2.1, g.2.2.2.1, g.2.2.2.2.1⟩
      obtain ⟨b2, q0, x1, x2⟩ := getR ho1.row hS8 h4.2.2.2.1
      obtain ⟨b3, q3', x3, x4⟩ := getR ho1.row hS8 h4.2.2.2.2
      simp (maxDischargeDepth := 9) [hts, tab, hlt, e1, e2, Ins.enc, loadB, hw1, o1, o2, o8]
      refine (l3Two_ok op _).mono fun y K1 ⟨y1, y2⟩ => ?_
      subst y1 y2
      simp only [decide_eq_true (And.intro h4.1 h4.2.1)]
      simp (maxDischargeDepth := 9) [hts, tab, hw1]
      refine W_draw mixed (.look 0 (.look 1 (.look 2 (.look 3 (.look 4 (.look 5 (.look 6 (.look 7 (.look 8 (.look 9 (.look 10 (.look 11 (.look 12 (.look 13 (.look 14 (.act 15 [2] (.look 16 (.act 17 [] .done .stop)) .stop)))))))))))))))) (by kernel_rfl) ?_
      simp (maxDischargeDepth := 9) [hts, tab, loadB, hw1, x1, x2, x3, x4]
      refine (l6Two_ok op (rg S a) (rg S b') _ (rg_good hSg h4.2.2.2.1) (rg_good hSg h4.2.2.2.2)).mono fun y K1 ⟨y1, f1⟩ => ?_
      subst y1
      have ho2 := ho1.fr f1
      obtain ⟨c, q1, K', q2, q3, q4, q5⟩ := ho2.putR h4.2.2.1.1 (by have := h4.2.2.1; unfold Nm at this; omega) (twoR op (rg S a) (rg S b'))
      have hl1 : loadA tI K1 (.ptr K.length 1) = some (.int .i64 dst) := by rw [f1.load (by simp [loadB])]; simp [loadB]
      simp (maxDischargeDepth := 9) [hts, tab, loadB, hw1, q1, q2, hl1]
      exact next _ _ _ (by simp [stepOne, o1, o2, h4.1, h4.2.1]) q3 (Fr.then ((hK.trans fB).trans f1) q4 hf) (by simp [hts])
  exact key l [] R _ K0 u rfl rfl hR a2 a3 a4 (by simp)
theorem l6Ranges_ok (R : List Rng) (w : AV) (H : Hp) (hm : R.length ≤ 1048576) (hw : Row 3 H w (rngs R)) : T Try.prog 59 [w] H (Says (GoodRs R) H) := by
  refine T.by tabOk Try.func59 (by kernel_rfl) rfl _ (by simp [Try.f59]) H _ ?_
  have hlen := hw.len 24
  simp [Try.f59, tab, hlen]
  refine W_loop _ fun I hI => ?_
  have key : ∀ (r p : List Rng) (ts : TS) (K : Hp), R = p ++ r → Fr H K → (∀ x ∈ p, GoodR x) → (ts 0 = w ∧ ts 5 = w ∧ ts 6 = .int .i64 R.length ∧ ts 7 = .int .i64 p.length) → I ts K := by
    intro r
    induction r with
    | nil =>
      intro p ts K e hK hp hts
      apply hI
      simp at e
      subst e
      simp [hts, tab, hlen]
      refine Says.beq ?_ hK
      constructor
      · intro h; exact ⟨by omega, hp⟩
      · intro h; have := h.1; omega
    | cons a r ih =>
      intro p ts K e hK hp hts
      apply hI
      have hlt : (p.length : Int) < R.length := by simp [e]; omega
      obtain ⟨b, q, _, e1, e2, -⟩ := (hw.fr hK).get (tab := tab) (e := 24) (ety := tR) rfl (i := p.length) (a := a) (by simp [e]) .i64
      have e2 := e2 rfl
      have hw1 := wrap64 (x := p.length + 1) (by omega) (by omega)
      have fB := Fr.app K [some ⟨3, true, a.enc⟩]
      simp (maxDischargeDepth := 9) [hts, tab, hlt, e1, e2, Rng.enc, loadB]
      refine (goodRange_ok a _).mono fun y K1 ⟨y1, f1⟩ => ?_
      subst y1
      have f2 : Fr H K1 := hK.trans (fB.trans f1)
      by_cases hg : GoodR a
      · simp [hts, hw1, tab, hg]
        exact ih (p ++ [a]) _ _ (by simp [e]) f2 (fun x hx => by
          rcases List.mem_append.1 hx with hx | hx
          · exact hp x hx
          · simp at hx; subst hx; exact hg) (by simp [hts])
      · simp [hts, hw1, tab, hg]
        exact Says.no (fun h => hg (h.2 a (by simp [e]))) f2
  exact key R [] _ H rfl (Fr.refl H) (by simp) (by simp)
def AsksRng (g : FuncId) (caps : List AV) (p : Rng → Bool) (H : Hp) : Prop := ∀ (K : Hp) (m : Rng), Fr H K → T Try.prog g (.agg m.enc :: caps) K (fun r K' => r = .bool (p m) ∧ Fr K K')
theorem indexRng_ok (l : List Rng) (v : AV) (g : FuncId) (caps : List AV) (p : Rng → Bool) (H : Hp) (hm : l.length ≤ 1048576) (hv : Row 3 H v (l.map Rng.enc)) (hf : AsksRng g caps p H) : T Try.prog 100 [v, .fn g caps] H (fun r K => (∃ i : Int, r = .int .i64 i ∧ (0 ≤ i ↔ ∃ m ∈ l, p m = true)) ∧ Fr H K) := by
  refine T.by tabOk Try.func100 (by kernel_rfl) rfl _ (by simp [Try.f100]) H _ ?_
  have hlen := hv.len 24
  simp [Try.f100, tab, hlen]
  refine W_loop _ fun I hI => ?_
  have key : ∀ (r q : List Rng) (ts : TS) (K : Hp), l = q ++ r → Fr H K → (∀ m ∈ q, p m = false) → (ts 0 = v ∧ ts 1 = .fn g caps ∧ ts 7 = .int .i64 l.length ∧ ts 8 = .int .i64 q.length) → I ts K := by
    intro r
    induction r with
    | nil =>
      intro q ts K e hK hq hts
      apply hI
      simp at e
      subst e
      simp [hts, tab]
      exact ⟨fun m hm => by simp [hq m hm], hK⟩
    | cons a r ih =>
      intro q ts K e hK hq hts
      apply hI
      have hlt : (q.length : Int) < l.length := by simp [e]; omega
      obtain ⟨b, o, _, e1, e2, -⟩ := (hv.fr hK).get (tab := tab) (e := 24) (ety := tR) rfl (i := q.length) (a := a) (by simp [e]) .i64
      have e2 := e2 rfl
      have hw := wrap64 (x := q.length + 1) (by omega) (by omega)
      simp (maxDischargeDepth := 9) [hts, tab, hlt, e1, e2]
      refine (hf K a hK).mono fun y K1 ⟨y1, f1⟩ => ?_
      subst y1
      cases hp : p a with
      | true =>
        simp [hts, hp]
        exact ⟨⟨a, by simp [e], hp⟩, hK.trans f1⟩
      | false =>
        simp [hts, hp, hw]
        exact ih (q ++ [a]) _ _ (by simp [e]) (hK.trans f1) (fun m hm => by
          rcases List.mem_append.1 hm with hm | hm
          · exact hq m hm
          · simp at hm; subst hm; exact hp) (by simp [hts])
  exact key l [] _ H rfl (Fr.refl H) (by simp) (by simp)
theorem containsRng_ok (l : List Rng) (v : AV) (g : FuncId) (caps : List AV) (p : Rng → Bool) (H : Hp) (hm : l.length ≤ 1048576) (hv : Row 3 H v (l.map Rng.enc)) (hf : AsksRng g caps p H) : T Try.prog 65 [v, .fn g caps] H (fun r K => (∃ t, r = .bool t ∧ (t = true ↔ ∃ m ∈ l, p m = true)) ∧ Fr H K) := by
  refine T.by tabOk Try.func65 (by kernel_rfl) rfl _ (by simp [Try.f65]) H _ ?_
  simp [Try.f65]
  refine (indexRng_ok l v g caps p H hm hv hf).mono fun r K ⟨⟨i, e1, e2⟩, e3⟩ => ?_
  subst e1
  by_cases h0 : 0 ≤ i
  · simp [tab, h0]
    exact ⟨e2.1 h0, e3⟩
  · simp [tab, h0]
    refine ⟨fun x hx => ?_, e3⟩
    cases hp : p x with
    | false => rfl
    | true => exact absurd (e2.2 ⟨x, hx, hp⟩) h0
theorem badRng_ok (H : Hp) : AsksRng 99 [] (fun x => decide (¬ GoodR x)) H := by
  intro K m hK
  refine T.by tabOk Try.func99 (by kernel_rfl) rfl _ (by simp [Try.f99]) K _ ?_
  have fB := Fr.app K [some ⟨3, true, m.enc⟩]
  simp [Try.f99, tab, Rng.enc, loadB]
  refine (isSpan_ok m _).mono fun r K1 ⟨y1, f1⟩ => ?_
  subst y1
  simp
  exact fB.trans f1
theorem areSpans_ok (R : List Rng) (w : AV) (H : Hp) (hm : R.length ≤ 1048576) (hw : Row 3 H w (rngs R)) : T Try.prog 64 [w] H (Says (GoodRs R) H) := by
  refine T.by tabOk Try.func64 (by kernel_rfl) rfl _ (by simp [Try.f64]) H _ ?_
  have hlen := hw.len 24
  by_cases h8 : R.length = 8
  case neg =>
    have h8' : ¬ (R.length : Int) = 8 := by omega
    simp [Try.f64, tab, hlen, h8']
    exact Says.no (fun h => h8 h.1) (Fr.refl H)
  simp [Try.f64, tab, hlen, h8]
  refine (containsRng_ok R w _ [] _ H hm hw (badRng_ok H)).mono fun r K ⟨⟨t, e1, e2⟩, e3⟩ => ?_
  subst e1
  cases t with
  | true =>
    simp
    refine Says.no (fun h => ?_) e3
    obtain ⟨m, hm1, hm2⟩ := e2.1 rfl
    simp at hm2
    exact hm2 (h.2 m hm1)
  | false =>
    simp
    refine Says.yes ⟨h8, fun x hx => ?_⟩ e3
    refine Classical.byContradiction fun hn => ?_
    have := e2.2 ⟨x, hx, by simp [hn]⟩
    cases this
open Classical in
noncomputable def sres (l : List Ins) (R : List Rng) : List Rng × Bool := if GoodC l ∧ GoodRs R then (stepR l R, true) else ([], false)
def SRes (H : Hp) (l : List Ins) (R : List Rng) (r : AV) (K : Hp) : Prop := ∃ out, r = .tup [out, .bool (sres l R).2] ∧ Own 3 K out (rngs (sres l R).1) ∧ Fresh H.length out ∧ Fr H K
theorem specSteps_ok (l : List Ins) (R : List Rng) (v w : AV) (H : Hp) (hm : l.length ≤ 1048576) (hmR : R.length ≤ 1048576) (hv : Row 5 H v (l.map Ins.enc)) (hw : Row 3 H w (rngs R)) : T Try.prog 32 [v, w] H (SRes H l R) := by
  refine T.by tabOk Try.func32 (by kernel_rfl) rfl _ (by simp [Try.f32]) H _ ?_
  simp [Try.f32]
  refine (goodCode_ok l v H hm hv).mono fun r K0 ⟨⟨t, h1, h2⟩, h3⟩ => ?_
  subst h1
  cases t with
  | false =>
    have hn : ¬ (GoodC l ∧ GoodRs R) := fun h => by cases h2.2 h.1
    simp
    exact ⟨.nil, by simp [sres, hn], by simpa [sres, hn, rngs] using Own.nil 3 K0, Fresh.nil _, h3⟩
  | true =>
    simp
    refine (l6Ranges_ok R w K0 hmR (hw.fr h3)).mono fun r K1 ⟨⟨t, g1, g2⟩, g3⟩ => ?_
    subst g1
    have f1 := h3.trans g3
    cases t with
    | false =>
      have hn : ¬ (GoodC l ∧ GoodRs R) := fun h => by cases g2.2 h.2
      simp
      exact ⟨.nil, by simp [sres, hn], by simpa [sres, hn, rngs] using Own.nil 3 K1, Fresh.nil _, f1⟩
    | true =>
      have hy : GoodC l ∧ GoodRs R := ⟨h2.1 rfl, g2.1 rfl⟩
      simp
      refine (l6Step_ok l R v w K1 hy.1 hy.2 (hv.fr f1) (hw.fr f1)).mono fun r K2 ⟨e1, e2, e3⟩ => ?_
      simp
      exact ⟨r, by simp [sres, hy], by simpa only [sres, if_pos hy] using e1, e2.mono f1.1, f1.trans e3⟩
theorem implSteps_ok (l : List Ins) (R : List Rng) (v w : AV) (H : Hp) (hm : l.length ≤ 1048576) (hmR : R.length ≤ 1048576) (hv : Row 5 H v (l.map Ins.enc)) (hw : Row 3 H w (rngs R)) : T Try.prog 34 [v, w] H (SRes H l R) := by
  refine T.by tabOk Try.func34 (by kernel_rfl) rfl _ (by simp [Try.f34]) H _ ?_
  simp [Try.f34]
  refine (isCode_ok l v H hm hv).mono fun r K0 ⟨⟨t, h1, h2⟩, h3⟩ => ?_
  subst h1
  cases t with
  | false =>
    have hn : ¬ (GoodC l ∧ GoodRs R) := fun h => by cases h2.2 h.1
    simp
    exact ⟨.nil, by simp [sres, hn], by simpa [sres, hn, rngs] using Own.nil 3 K0, Fresh.nil _, h3⟩
  | true =>
    simp
    refine (areSpans_ok R w K0 hmR (hw.fr h3)).mono fun r K1 ⟨⟨t, g1, g2⟩, g3⟩ => ?_
    subst g1
    have f1 := h3.trans g3
    cases t with
    | false =>
      have hn : ¬ (GoodC l ∧ GoodRs R) := fun h => by cases g2.2 h.2
      simp
      exact ⟨.nil, by simp [sres, hn], by simpa [sres, hn, rngs] using Own.nil 3 K1, Fresh.nil _, f1⟩
    | true =>
      have hy : GoodC l ∧ GoodRs R := ⟨h2.1 rfl, g2.1 rfl⟩
      simp
      refine (stepRanges_ok l R v w K1 hy.1 hy.2 (hv.fr f1) (hw.fr f1)).mono fun r K2 ⟨e1, e2, e3⟩ => ?_
      simp
      exact ⟨r, by simp [sres, hy], by simpa only [sres, if_pos hy] using e1, e2.mono f1.1, f1.trans e3⟩
end Go.Proofs.Ytfndikfaibbjoaa.Am
