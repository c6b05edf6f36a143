/- Ranges that are drawn. No condition. -/
import Derived.Test.YtfndikfaibbjoaaLDrawCode
import Derived.Test.YtfndikfaibbjoaaLSteps
namespace Go.Proofs.Ytfndikfaibbjoaa.Am
open Go Go.RowKit
set_option linter.unusedSimpArgs false
set_option linter.unusedVariables false

set_option maxRecDepth 100000 in
theorem drawRng_ok (c : Nat) (n : Int) (H : Hp) (hn : n ≤ 100000) (hc : Cur H c n) : T Try.prog 76 [.ptr c 0] H (fun r K => (∃ x : Rng, r = .agg x.enc) ∧ Cur K c (n + 20) ∧ Moves c H K) := by
  refine T.by tabOk Try.func76 (by kernel_rfl) rfl _ (by simp [Try.f76]) H _ ?_
  have hcl := hc.lt
  obtain ⟨H1, hH1⟩ : ∃ H1, H1 = H ++ [some ⟨3, true, [.bool false, .int .i64 0, .int .i64 0]⟩] := ⟨_, rfl⟩
  have f1 : Fr H H1 := hH1 ▸ Fr.app H _
  have hz : H1[H.length]? = some (some ⟨3, true, [.bool false, .int .i64 0, .int .i64 0]⟩) := by rw [hH1]; simp
  simp [Try.f76, tab]
  rw [← hH1]
  refine (one_ok c 6 n H1 (by omega) (hc.fr f1)).mono fun r K1 ⟨⟨y, e1⟩, c1, m1⟩ => ?_
  subst e1
  have hz1 := m1.2 _ _ hz fun h => by omega
  have M1 : Moves c H K1 := (Moves.of f1).trans m1
  have endAll : ∀ (K K' : Hp), Moves c H K → Keeps (fun b => b = H.length) K K' → Moves c H K' := fun K K' h k => ⟨Nat.le_trans h.1 k.1, fun b blk hb hn => k.2 b blk (h.2 b blk hb hn) fun e => by have := lt_of_get hb; omega⟩
  cases y with
  | true =>
    obtain ⟨K', s1, s2, s3, _⟩ := put_range hz1 rfl ⟨true, 0, 0⟩
    simp only [Rng.enc] at s1 s2
    simp [tab, fillA, over, s1, s2]
    exact ⟨⟨⟨true, 0, 0⟩, rfl⟩, (c1.keeps s3 fun b hb => by omega).mono (by omega), endAll _ _ M1 s3⟩
  | false =>
    have r1 := ints_row K1 [0, 0, 1, 3, 200, 65535]
    simp at r1
    have fB := Fr.app K1 [some ⟨1, true, [.int .i64 0, .int .i64 0, .int .i64 1, .int .i64 3, .int .i64 200, .int .i64 65535]⟩]
    have hl1 := c1.lt
    simp [tab, buildSliceA, zerosA, fillA, over]
    refine (among_ok c _ _ _ _ (by omega) (by simp) (by simp) (c1.fr fB) r1 (fun b hb => by cases hb; omega)).mono fun r K2 ⟨⟨x, e1, hx⟩, c2, m2⟩ => ?_
    subst e1
    have M2 : Moves c H K2 := (M1.trans (Moves.of fB)).trans m2
    have hz2 := m2.2 _ _ (fB.2 _ _ hz1 id) fun h => by omega
    have r2 := ints_row K2 [0, 0, 1, 5, 300]
    simp at r2
    have fC := Fr.app K2 [some ⟨1, true, [.int .i64 0, .int .i64 0, .int .i64 1, .int .i64 5, .int .i64 300]⟩]
    have hl2 := c2.lt
    simp [tab, buildSliceA, zerosA, fillA, over]
    refine (among_ok c _ _ _ _ (by omega) (by simp) (by simp) (c2.fr fC) r2 (fun b hb => by cases hb; omega)).mono fun r K3 ⟨⟨y, e1, hy⟩, c3, m3⟩ => ?_
    subst e1
    have M3 : Moves c H K3 := (M2.trans (Moves.of fC)).trans m3
    have hz3 := m3.2 _ _ (fC.2 _ _ hz2 id) fun h => by omega
    simp [tab]
    refine (least_ok _ 65535 K3).mono fun r K' ⟨e1, e2⟩ => ?_
    subst e1 e2
    generalize hmv : min (IntKind.i64.wrap (x + y)) 65535 = hi
    have fD := Fr.app K' [some ⟨3, true, [.bool false, .int .i64 x, .int .i64 hi]⟩]
    simp [tab, fillA, over, storeB]
    refine (one_ok c 30 _ _ (by omega) (c3.fr fD)).mono fun r K4 ⟨⟨z, e1⟩, c4, m4⟩ => ?_
    subst e1
    have hl3 := c3.lt
    have M4 : Moves c H K4 := (M3.trans (Moves.of fD)).trans m4
    have hz4 := m4.2 _ _ (fD.2 _ _ hz3 id) fun h => by omega
    have hr4 : K4[K'.length]? = some (some ⟨3, true, [.bool false, .int .i64 x, .int .i64 hi]⟩) := m4.2 _ _ (by simp) fun h => by omega
    have hHK := M3.1
    cases z with
    | false =>
      have hld : loadA tR K4 (.ptr K'.length 0) = some (.agg (Rng.enc ⟨false, x, hi⟩)) := by simp [loadA, hr4, Rng.enc]
      obtain ⟨K5, s1, s2, s3, _⟩ := put_range hz4 rfl ⟨false, x, hi⟩
      simp [tab, hld, s1, s2]
      exact ⟨⟨_, rfl⟩, (c4.keeps s3 fun b hb => by omega).mono (by omega), endAll _ _ M4 s3⟩
    | true =>
      simp [tab]
      refine (one_ok c 2 _ K4 (by omega) c4).mono fun r K5 ⟨⟨z1, e1⟩, c5, m5⟩ => ?_
      subst e1
      simp [tab]
      refine (pick_ok c 3 _ K5 (by omega) c5).mono fun r K6 ⟨⟨z2, e1, _⟩, c6, m6⟩ => ?_
      subst e1
      have r3 := ints_row K6 [0, 65535, 65536]
      simp at r3
      have fE := Fr.app K6 [some ⟨1, true, [.int .i64 0, .int .i64 65535, .int .i64 65536]⟩]
      have hl6 := c6.lt
      simp [tab, buildSliceA, zerosA, fillA, over]
      refine (among_ok c _ _ _ _ (by omega) (by simp) (by simp) (c6.fr fE) r3 (fun b hb => by cases hb; omega)).mono fun r K7 ⟨⟨z3, e1, _⟩, c7, m7⟩ => ?_
      subst e1
      have M7 : Moves c H K7 := (((M4.trans m5).trans m6).trans (Moves.of fE)).trans m7
      have hz7 := m7.2 _ _ (fE.2 _ _ (m6.2 _ _ (m5.2 _ _ hz4 fun h => by omega) fun h => by omega) id) fun h => by omega
      have hr7 := m7.2 _ _ (fE.2 _ _ (m6.2 _ _ (m5.2 _ _ hr4 fun h => by omega) fun h => by omega) id) fun h => by omega
      obtain ⟨K8, t1, t2, t3, t4⟩ := put_range hr7 rfl ⟨z1, IntKind.i64.wrap (z2 - 1), z3⟩
      have hz8 := t3.2 _ _ hz7 fun h => by have := lt_of_get hz3; omega
      obtain ⟨K9, s1, s2, s3, _⟩ := put_range hz8 rfl ⟨z1, IntKind.i64.wrap (z2 - 1), z3⟩
      simp only [Rng.enc] at t1 t2 s1 s2
      simp [tab, fillA, over, t1, t2, s1, s2]
      refine ⟨⟨⟨z1, IntKind.i64.wrap (z2 - 1), z3⟩, rfl⟩, ((c7.keeps t3 fun b hb => by omega).keeps s3 fun b hb => by omega).mono (by omega), endAll _ _ ?_ s3⟩
      exact ⟨Nat.le_trans M7.1 t3.1, fun b blk hb hn => t3.2 b blk (M7.2 b blk hb hn) fun e => by have := lt_of_get hb; omega⟩
set_option maxRecDepth 100000 in
theorem drawRngs_ok (c : Nat) (n : Int) (H : Hp) (hn : n ≤ 50000) (hc : Cur H c n) : T Try.prog 87 [.ptr c 0] H (fun r K => (∃ R, Own 3 K r (rngs R) ∧ R.length = 8) ∧ Fresh H.length r ∧ Cur K c (n + 200) ∧ Moves c H K) := by
  refine T.by tabOk Try.func87 (by kernel_rfl) rfl _ (by simp [Try.f87]) H _ ?_
  have hcl := hc.lt
  simp [Try.f87]
  refine W_loop _ fun I hI => ?_
  have key : ∀ (d k : Nat) (ts : TS) (K : Hp) (u : AV) (R : List Rng), k + d = 8 → R.length = k → Own 3 K u (rngs R) → Fresh H.length u → Cur K c (n + 22 * k) → Moves c H K → (ts 0 = .ptr c 0 ∧ ts 3 = u ∧ ts 4 = .int .i64 k) → I ts K := by
    intro d
    induction d with
    | zero =>
      intro k ts K u R e hR ho hf hcc hM hts
      apply hI
      obtain rfl : k = 8 := by omega
      simp [hts, tab]
      exact ⟨⟨R, ho, hR⟩, hf, hcc.mono (by omega), hM⟩
    | succ d ih =>
      intro k ts K u R e hR ho hf hcc hM hts
      apply hI
      have hlt : (k : Int) < 8 := by omega
      have hw := wrap64 (x := k + 1) (by omega) (by omega)
      simp [hts, tab, hlt]
      refine (drawRng_ok c _ K (by omega) hcc).mono fun r K1 ⟨⟨x, e1⟩, c1, m1⟩ => ?_
      subst e1
      have ho1 := ho.keeps m1 fun b hb e => by have := hf b hb; omega
      have M1 := hM.trans m1
      have hcl1 := c1.lt
      -- what is put behind
      have next : ∀ (y : Rng) (ts : TS) (K2 : Hp), Own 3 K2 u (rngs R) → Cur K2 c (n + 22 * (k + 1 : Nat)) → Moves c H K2 → (ts 0 = .ptr c 0 ∧ ts 4 = .int .i64 k) → ∃ u' K3, appendA 3 24 (K2 ++ [some ⟨3, true, [.bool y.em, .int .i64 y.lo, .int .i64 y.hi]⟩]) u (.sl K2.length 0 1) = some (u', K3) ∧ ∀ ts' : TS, (ts' 0 = .ptr c 0 ∧ ts' 3 = u' ∧ ts' 4 = .int .i64 (k + 1 : Nat)) → I ts' K3 := by
        intro y ts K2 h2 h3 h4 _
        obtain ⟨u', K3, a1, a2, a3, a4⟩ := h2.pushX (bytes := 24) (e := y.enc) rfl (by decide) (by decide) (by simp; omega)
        refine ⟨u', K3, a1, fun ts' hts' => ih (k + 1) ts' K3 u' (R ++ [y]) (by omega) (by simp [hR]) (by simpa [rngs] using a2) (fun b hb => (a4 b hb).elim (hf b) fun h => Nat.le_trans h4.1 h) (h3.keeps a3 fun b hb => by have := hf b hb; omega) (h4.up a3 hf) hts'⟩
      have fB := Fr.app K1 [some ⟨3, true, [.bool x.em, .int .i64 x.lo, .int .i64 x.hi]⟩]
      have hb1 : (K1 ++ [some ⟨3, true, [.bool x.em, .int .i64 x.lo, .int .i64 x.hi]⟩])[K1.length]? = some (some ⟨3, true, x.enc⟩) := by simp [Rng.enc]
      -- keep it, or take all words in its place
      have keep : ∀ (ts : TS) (K2 : Hp), K2[K1.length]? = some (some ⟨3, true, x.enc⟩) → Own 3 K2 u (rngs R) → Cur K2 c (n + 22 * (k + 1 : Nat)) → Moves c H K2 → True := fun _ _ _ _ _ _ => trivial
      obtain ⟨em, lo, hi⟩ := x
      simp only [Rng.enc] at hb1
      cases em with
      | true =>
        simp (maxDischargeDepth := 9) [hts, tab, Rng.enc, loadB, storeB, over]
        refine (one_ok c 20 _ _ (by omega) (c1.fr fB)).mono fun r K2 ⟨⟨z, e1⟩, c2, m2⟩ => ?_
        subst e1
        have hb2 := m2.2 _ _ hb1 fun h => by omega
        have ho2 := (ho1.fr fB).keeps m2 fun b hb e => by have := hf b hb; omega
        have M2 := (M1.trans (Moves.of fB)).trans m2
        cases z with
        | true =>
          obtain ⟨u', K3, a1, a2⟩ := next ⟨true, lo, hi⟩ ts K2 ho2 (c2.mono (by omega)) M2 ⟨hts.1, hts.2.2⟩
          have hld : loadA tR K2 (.ptr K1.length 0) = some (.agg [.bool true, .int .i64 lo, .int .i64 hi]) := by simp [loadA, hb2]
          simp (maxDischargeDepth := 9) [hts, tab, hld, buildSliceA, zerosA, fillA, over, a1, hw]
          exact a2 _ (by simp [hts])
        | false =>
          obtain ⟨K3, s1, s2, s3, s4⟩ := put_range hb2 rfl ⟨false, 0, 65535⟩
          simp only [Rng.enc] at s1 s2 s4
          obtain ⟨u', K4, a1, a2⟩ := next ⟨false, 0, 65535⟩ ts K3 (ho2.keeps s3 fun b hb e => by have := ho1.lt b hb; omega) ((c2.keeps s3 fun b hb => by omega).mono (by omega)) (Moves.up M2 s3 fun b hb => by have := M1.1; omega) ⟨hts.1, hts.2.2⟩
          simp (maxDischargeDepth := 9) [hts, tab, fillA, over, s1, s2, buildSliceA, zerosA, a1, hw]
          exact a2 _ (by simp [hts])
      | false =>
        simp (maxDischargeDepth := 9) [hts, tab, Rng.enc, loadB, storeB, over]
        refine (goodRange_ok ⟨false, lo, hi⟩ _).mono fun r K2 ⟨e1, f2⟩ => ?_
        subst e1
        have hb2 := f2.2 _ _ hb1 id
        have ho2 := (ho1.fr fB).fr f2
        have c2 := (c1.fr fB).fr f2
        have M2 := (M1.trans (Moves.of fB)).trans (Moves.of f2)
        by_cases hg : GoodR ⟨false, lo, hi⟩
        · obtain ⟨u', K3, a1, a2⟩ := next ⟨false, lo, hi⟩ ts K2 ho2 (c2.mono (by omega)) M2 ⟨hts.1, hts.2.2⟩
          have hld : loadA tR K2 (.ptr K1.length 0) = some (.agg [.bool false, .int .i64 lo, .int .i64 hi]) := by simp [loadA, hb2]
          simp (maxDischargeDepth := 9) [hts, tab, hg, hld, buildSliceA, zerosA, fillA, over, a1, hw]
          exact a2 _ (by simp [hts])
        · simp (maxDischargeDepth := 9) [hts, tab, hg]
          refine (one_ok c 20 _ _ (by omega) c2).mono fun r K3 ⟨⟨z, e1⟩, c3, m3⟩ => ?_
          subst e1
          have hb3 := m3.2 _ _ hb2 fun h => by omega
          have ho3 := ho2.keeps m3 fun b hb e => by have := hf b hb; omega
          have M3 := M2.trans m3
          cases z with
          | true =>
            obtain ⟨u', K4, a1, a2⟩ := next ⟨false, lo, hi⟩ ts K3 ho3 (c3.mono (by omega)) M3 ⟨hts.1, hts.2.2⟩
            have hld : loadA tR K3 (.ptr K1.length 0) = some (.agg [.bool false, .int .i64 lo, .int .i64 hi]) := by simp [loadA, hb3]
            simp (maxDischargeDepth := 9) [hts, tab, hld, buildSliceA, zerosA, fillA, over, a1, hw]
            exact a2 _ (by simp [hts])
          | false =>
            obtain ⟨K4, s1, s2, s3, s4⟩ := put_range hb3 rfl ⟨false, 0, 65535⟩
            simp only [Rng.enc] at s1 s2 s4
            obtain ⟨u', K5, a1, a2⟩ := next ⟨false, 0, 65535⟩ ts K4 (ho3.keeps s3 fun b hb e => by have := ho1.lt b hb; omega) ((c3.keeps s3 fun b hb => by omega).mono (by omega)) (Moves.up M3 s3 fun b hb => by have := M1.1; omega) ⟨hts.1, hts.2.2⟩
            simp (maxDischargeDepth := 9) [hts, tab, fillA, over, s1, s2, buildSliceA, zerosA, a1, hw]
            exact a2 _ (by simp [hts])
  exact key 8 0 _ H .nil [] rfl rfl (by simpa [rngs] using Own.nil 3 H) (Fresh.nil _) (hc.mono (by omega)) (Keeps.refl _ _) (by simp)
end Go.Proofs.Ytfndikfaibbjoaa.Am
