/- Facts that are drawn, and what is drawn for the laws of facts. No condition. -/
import Derived.Test.YtdbnokeegocpbaaGreatLDrawFlow
import Derived.Test.YtdbnokeegocpbaaGreatLFactSteps
namespace Go.Proofs.YtdbnokeegocpbaaGreat.Am
open Go Go.RowKit
set_option linter.unusedSimpArgs false
set_option linter.unusedVariables false

theorem put_fct {K : Hp} {c : Nat} {l : List AV} (h : K[c]? = some (some ⟨3, true, l⟩)) (hl : l.length = 3) (x : Fct) : ∃ K', storeA tF K (.ptr c 0) (.agg [.bool x.top, .bool x.known, .int .i64 x.n]) = some K' ∧ loadA tF K' (.ptr c 0) = some (.agg [.bool x.top, .bool x.known, .int .i64 x.n]) ∧ Keeps (fun b => b = c) K K' ∧ K'[c]? = some (some ⟨3, true, [.bool x.top, .bool x.known, .int .i64 x.n]⟩) := by
  obtain ⟨K', s1, s2, s3, s4⟩ := store_at h rfl (ty := tF) (o := 0) (v := .agg [.bool x.top, .bool x.known, .int .i64 x.n]) rfl rfl (by simp [hl])
  have e : over l 0 [.bool x.top, .bool x.known, .int .i64 x.n] = [.bool x.top, .bool x.known, .int .i64 x.n] := by
    unfold over
    simp [hl]
  simp only [AV.cells, e] at s2
  exact ⟨K', s1, by simp [loadA, s2], s3, s2⟩
set_option maxRecDepth 100000 in
theorem drawFct_ok (c : Nat) (n : Int) (H : Hp) (hn : n ≤ 100000) (hc : Cur H c n) : T Tryz.prog 77 [.ptr c 0] H (fun r K => (∃ x : Fct, r = .agg x.enc) ∧ Cur K c (n + 20) ∧ Moves c H K) := by
  refine T.by tabOk Tryz.func77 (by kernel_rfl) rfl _ (by simp [Tryz.f77]) H _ ?_
  have hcl := hc.lt
  obtain ⟨H1, hH1⟩ : ∃ H1, H1 = H ++ [some ⟨3, true, [.bool false, .bool false, .int .i64 0]⟩] := ⟨_, rfl⟩
  have f1 : Fr H H1 := hH1 ▸ Fr.app H _
  have hz : H1[H.length]? = some (some ⟨3, true, [.bool false, .bool false, .int .i64 0]⟩) := by rw [hH1]; simp
  simp [Tryz.f77, tab]
  rw [← hH1]
  have fin : ∀ (x : Fct) (K : Hp) (m : Int), m ≤ 20 → Cur K c (n + m) → Moves c H1 K → ∃ K', storeA tF K (.ptr H.length 0) (.agg [.bool x.top, .bool x.known, .int .i64 x.n]) = some K' ∧ loadA tF K' (.ptr H.length 0) = some (.agg [.bool x.top, .bool x.known, .int .i64 x.n]) ∧ Cur K' c (n + 20) ∧ Moves c H K' := by
    intro x K m hm hcc hmv
    obtain ⟨K', s1, s2, s3, s4⟩ := put_fct (hmv.2 _ _ hz (by omega)) rfl x
    exact ⟨K', s1, s2, (hcc.keeps s3 fun b hb => by omega).mono (by omega), Moves.up ((Moves.of f1).trans hmv) s3 fun b hb => by omega⟩
  refine (pick_ok c 4 n H1 (by omega) (hc.fr f1)).mono fun r K0 ⟨⟨x, e1, x0, x1⟩, c0, m0⟩ => ?_
  subst e1
  have hx : x = 0 ∨ x = 1 ∨ x = 2 ∨ x = 3 := by omega
  obtain ⟨K1, s1, s2, s3, s4⟩ := fin botF K0 2 (by omega) c0 m0
  rcases hx with rfl | rfl | rfl | rfl
  · simp [tab, fillA, over, s1, s2]
    exact ⟨⟨botF, rfl⟩, s3, s4⟩
  · simp [tab, fillA, over, s1, s2]
    exact ⟨⟨botF, rfl⟩, s3, s4⟩
  · simp [tab]
    refine (pick_ok c 3 _ K0 (by omega) c0).mono fun r K2 ⟨⟨y, e1, _⟩, c2, m2⟩ => ?_
    subst e1
    obtain ⟨K3, t1, t2, t3, t4⟩ := fin (isF y) K2 4 (by omega) (c2.mono (by omega)) (m0.trans m2)
    simp [tab, fillA, over, t1, t2]
    exact ⟨⟨isF y, rfl⟩, t3, t4⟩
  · simp [tab]
    refine (one_ok c 4 _ K0 (by omega) c0).mono fun r K2 ⟨⟨y, e1⟩, c2, m2⟩ => ?_
    subst e1
    have M2 := m0.trans m2
    cases y with
    | false =>
      obtain ⟨K3, t1, t2, t3, t4⟩ := fin topF K2 4 (by omega) (c2.mono (by omega)) M2
      simp [tab, fillA, over, t1, t2]
      exact ⟨⟨topF, rfl⟩, t3, t4⟩
    | true =>
      simp [tab]
      refine (one_ok c 2 _ K2 (by omega) c2).mono fun r K3 ⟨⟨y1, e1⟩, c3, m3⟩ => ?_
      subst e1
      simp [tab]
      refine (one_ok c 2 _ K3 (by omega) c3).mono fun r K4 ⟨⟨y2, e1⟩, c4, m4⟩ => ?_
      subst e1
      have r2 := ints_row K4 [0, 1, 65536]
      simp at r2
      have fB := Fr.app K4 [some ⟨1, true, [.int .i64 0, .int .i64 1, .int .i64 65536]⟩]
      have hlc := c4.lt
      simp [tab, buildSliceA, zerosA, fillA, over]
      refine (among_ok c _ _ _ _ (by omega) (by simp) (by simp) (c4.fr fB) r2 (fun b hb => by cases hb; omega)).mono fun r K5 ⟨⟨z, e1, _⟩, c5, m5⟩ => ?_
      subst e1
      obtain ⟨K6, t1, t2, t3, t4⟩ := fin ⟨y1, y2, z⟩ K5 10 (by omega) (c5.mono (by omega)) ((((M2.trans m3).trans m4).trans (Moves.of fB)).trans m5)
      simp only at t1 t2
      simp [tab, fillA, over, t1, t2]
      exact ⟨⟨⟨y1, y2, z⟩, rfl⟩, t3, t4⟩
set_option maxRecDepth 100000 in
theorem drawFcts_ok (c : Nat) (n : Int) (H : Hp) (hn : n ≤ 50000) (hc : Cur H c n) : T Tryz.prog 45 [.ptr c 0] H (fun r K => (∃ R, Own 3 K r (fcts R) ∧ R.length = 8) ∧ Fresh H.length r ∧ Cur K c (n + 300) ∧ Moves c H K) := by
  refine T.by tabOk Tryz.func45 (by kernel_rfl) rfl _ (by simp [Tryz.f45]) H _ ?_
  have hcl := hc.lt
  simp [Tryz.f45]
  refine W_loop _ fun I hI => ?_
  have key : ∀ (d : Nat) (ts : TS) (K : Hp) (v : AV) (l : List Fct), l.length + d = 8 → Own 3 K v (fcts l) → Fresh H.length v → Cur K c (n + 30 * l.length) → Moves c H K → (ts 0 = .ptr c 0 ∧ ts 3 = v ∧ ts 4 = .int .i64 l.length) → I ts K := by
    intro d
    induction d with
    | zero =>
      intro ts K v l hl ho hf hcc hK hts
      apply hI
      have h8 : l.length = 8 := by omega
      rw [h8] at hts hcc
      simp [hts, tab]
      exact ⟨⟨l, ho, h8⟩, hf, hcc.mono (by omega), hK⟩
    | succ d ih =>
      intro ts K v l hl ho hf hcc hK hts
      apply hI
      have hlt : (l.length : Int) < 8 := by omega
      have hw := wrap64 (x := (l.length : Int) + 1) (by omega) (by omega)
      simp [hts, tab, hlt]
      refine (drawFct_ok c _ K (by omega) hcc).mono fun r K1 ⟨⟨x, e1⟩, c1, m1⟩ => ?_
      subst e1
      obtain ⟨p5, hp5⟩ : ∃ p5, p5 = K1.length := ⟨_, rfl⟩
      obtain ⟨K2, hK2, f2⟩ : ∃ K2, K1 ++ [some ⟨3, true, [.bool x.top, .bool x.known, .int .i64 x.n]⟩] = K2 ∧ Fr K1 K2 := ⟨_, rfl, Fr.app _ _⟩
      have hx2 : K2[p5]? = some (some ⟨3, true, [.bool x.top, .bool x.known, .int .i64 x.n]⟩) := by rw [← hK2, hp5]; simp
      have q0 : loadA tFB K2 (.ptr p5 0) = some (.bool x.top) := load_at hx2 rfl rfl rfl
      have q1 : loadA tF K2 (.ptr p5 0) = some (.agg [.bool x.top, .bool x.known, .int .i64 x.n]) := by simp [loadA, hx2]
      have hvp : ∀ b, v.at b → b < p5 := fun b hb => by have := ho.lt b hb; have := m1.1; omega
      have M2 : Moves c H K2 := (hK.trans m1).trans (Moves.of f2)
      have hpc : c < p5 := by have := c1.lt; omega
      have hpH : H.length ≤ p5 := by have := hK.1; have := m1.1; omega
      have ho2 := (ho.keeps m1 fun b hb e => by have := hf b hb; omega).fr f2
      have fin : ∀ (y : Fct) (Kx : Hp), Own 3 Kx v (fcts l) → Cur Kx c (n + 30 * l.length + 22) → Moves c H Kx → ∃ u' K3, appendA 3 16 (Kx ++ [some ⟨3, true, [.bool y.top, .bool y.known, .int .i64 y.n]⟩]) v (.sl Kx.length 0 1) = some (u', K3) ∧ ∀ ts', (ts' 0 = .ptr c 0 ∧ ts' 3 = u' ∧ ts' 4 = .int .i64 (l.length + 1)) → I ts' K3 := by
        intro y Kx hox hcx hmx
        obtain ⟨u', K3, a1, a2, a3, a4⟩ := hox.pushX (bytes := 16) (e := y.enc) rfl (by decide) (by decide) (by simp; omega)
        refine ⟨u', K3, a1, fun ts' hts' => ?_⟩
        exact ih ts' K3 u' (l ++ [y]) (by simp; omega) (by simpa [fcts] using a2) (fun b hb => (a4 b hb).elim (hf b) fun h => Nat.le_trans hmx.1 h) ((hcx.keeps a3 fun b hb => by have := hf b hb; omega).mono (by simp; omega)) (Moves.up hmx a3 hf) (by simp [hts'])
      simp only [Fct.enc]
      simp [hts, tab, storeB, over, hK2]
      rw [← hp5]
      cases ht : x.top with
      | false =>
        rw [ht] at q0
        obtain ⟨u', K3, a1, a2⟩ := fin x K2 ho2 ((c1.fr f2).mono (by omega)) M2
        simp (maxDischargeDepth := 9) [hts, tab, q0, q1, buildSliceA, zerosA, fillA, over, a1, hw]
        exact a2 _ (by simp [hts])
      | true =>
        rw [ht] at q0
        simp (maxDischargeDepth := 9) [hts, tab, q0]
        refine (one_ok c 30 _ K2 (by omega) (c1.fr f2)).mono fun r K4 ⟨⟨y, e1⟩, c4, m4⟩ => ?_
        subst e1
        have hx4 := m4.2 _ _ hx2 (by omega)
        have ho4 := ho2.keeps m4 fun b hb e => by have := hf b hb; omega
        have M4 := M2.trans m4
        cases y with
        | true =>
          have q1 : loadA tF K4 (.ptr p5 0) = some (.agg [.bool x.top, .bool x.known, .int .i64 x.n]) := by simp [loadA, hx4]
          obtain ⟨u', K3, a1, a2⟩ := fin x K4 ho4 (c4.mono (by omega)) M4
          simp (maxDischargeDepth := 9) [hts, tab, q1, buildSliceA, zerosA, fillA, over, a1, hw]
          exact a2 _ (by simp [hts])
        | false =>
          obtain ⟨K5, s1, s2, s3, s4⟩ := put_fct hx4 rfl botF
          simp only at s1 s2
          have ho5 := ho4.keeps s3 fun b hb e => by have := hvp b hb; omega
          obtain ⟨u', K3, a1, a2⟩ := fin botF K5 ho5 ((c4.keeps s3 fun b hb => by omega).mono (by omega)) (Moves.up M4 s3 fun b hb => by omega)
          simp only at a1
          simp (maxDischargeDepth := 9) [hts, tab, buildSliceA, zerosA, fillA, over, s1, s2, a1, hw]
          exact a2 _ (by simp [hts])
  exact key 8 _ H .nil [] rfl (by simpa [fcts] using Own.nil 3 H) (Fresh.nil _) (hc.mono (by simp)) (Keeps.refl _ _) (by simp)
theorem NewF.look {H K : Hp} {r : AV} (h : NewF H r K) : ∃ f us, FOwn K r f us ∧ f.length ≤ 10 ∧ ∀ b ∈ f, b.code.length ≤ 10 := by
  obtain ⟨f, us, a1, _, _, a4, a5⟩ := h
  exact ⟨f, us, a1, a4, a5⟩
theorem NewF.frame {c : Nat} {H K K' : Hp} {r : AV} (h : NewF H r K) (k : Moves c K K') (hc : c < H.length) : NewF H r K' := by
  obtain ⟨f, us, a1, a2, a3, a4, a5⟩ := h
  exact ⟨f, us, a1.frame k a2 a3 (by rintro b rfl; exact hc), a2, a3, a4, a5⟩
/-- A flow and facts, drawn. -/
def DFlowFacts (H : Hp) (r : AV) (K : Hp) : Prop := (∃ v w f us R, r = .tup [v, w] ∧ FOwn K v f us ∧ f.length ≤ 10 ∧ (∀ b ∈ f, b.code.length ≤ 10) ∧ Own 3 K w (fcts R) ∧ R.length = 8) ∧ Fr H K
theorem drawPlain_ok (v : AV) (H : Hp) (hv : Bytes H v) : T Tryz.prog 15 [v] H (DFlowFacts H) := by
  refine T.by tabOk Tryz.func15 (by kernel_rfl) rfl _ (by simp [Tryz.f15]) H _ ?_
  have h1 := hv.one
  have h2 := cells_of_one h1
  simp [Tryz.f15, tab, fillA, over, h1, h2]
  refine (anyFlow_ok H.length 0 _ (by omega) (cur_new hv)).mono fun u K ⟨hF, c1, m1⟩ => ?_
  simp
  refine (drawFcts_ok H.length _ K (by omega) c1).mono fun w K2 ⟨⟨R, hR, hRl⟩, hf2, c2, m2⟩ => ?_
  simp
  obtain ⟨f, us, a1, a2, a3⟩ := (hF.frame m2 (by simp)).look
  exact ⟨⟨u, w, f, us, R, rfl, a1, a2, a3, hR, hRl⟩, Moves.free (m1.trans m2)⟩
theorem drawFold_ok (v : AV) (H : Hp) (hv : Bytes H v) : T Tryz.prog 4 [v] H (DFlowFacts H) := by
  refine T.by tabOk Tryz.func4 (by kernel_rfl) rfl _ (by simp [Tryz.f4]) H _ ?_
  simp [Tryz.f4]
  refine (drawPlain_ok v H hv).mono fun r K ⟨⟨v, w, f, us, R, e1, a⟩, b⟩ => ?_
  subst e1
  simp [tab]
  exact ⟨⟨v, w, f, us, R, rfl, a⟩, b⟩
end Go.Proofs.YtdbnokeegocpbaaGreat.Am
