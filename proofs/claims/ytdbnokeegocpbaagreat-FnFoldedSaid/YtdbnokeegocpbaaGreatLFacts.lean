/- Facts of words: both ways to ask and to reckon them come to the same. No condition. -/
import Derived.Test.YtdbnokeegocpbaaGreatLRunMath
import Derived.Test.YtdbnokeegocpbaaGreatLReckon
namespace Go.Proofs.YtdbnokeegocpbaaGreat.Am
open Go Go.RowKit
set_option linter.unusedSimpArgs false
set_option linter.unusedVariables false

abbrev tF : Ty := ⟨.struct [(0, 4), (1, 4), (2, 3)], 3, 16, [.bool false, .bool false, .int .i64 0], true⟩
abbrev tFB : Ty := ⟨.bool, 1, 1, [.bool false], false⟩
abbrev fcts (R : List Fct) : List (List AV) := R.map Fct.enc
set_option maxRecDepth 100000 in
theorem isFact_ok (x : Fct) (H : Hp) : T Tryz.prog 51 [.agg x.enc] H (fun r K => r = .bool (decide (GoodFc x)) ∧ Fr H K) := by
  refine T.by tabOk Tryz.func51 (by kernel_rfl) rfl _ (by simp [Tryz.f51]) H _ ?_
  obtain ⟨top, known, n⟩ := x
  simp [Tryz.f51, tab, Fct.enc, loadB]
  refine (isWord_ok n _).mono fun r K ⟨e1, e2⟩ => ?_
  subst e1 e2
  by_cases h : 0 ≤ n ∧ n ≤ 65535
  case neg =>
    simp only [decide_eq_false h]
    simp [tab]
    exact ⟨fun hg => h hg.1, Fr.app _ _⟩
  simp only [decide_eq_true h]
  cases top <;> cases known <;> by_cases h0 : n = 0 <;> simp [tab, loadB, h0, GoodFc, h] <;> (try exact Fr.app _ _)
set_option maxRecDepth 100000 in
theorem goodFact_ok (x : Fct) (H : Hp) : T Tryz.prog 56 [.agg x.enc] H (fun r K => r = .bool (decide (GoodFc x)) ∧ Fr H K) := by
  refine T.by tabOk Tryz.func56 (by kernel_rfl) rfl _ (by simp [Tryz.f56]) H _ ?_
  obtain ⟨top, known, n⟩ := x
  cases top with
  | true => cases known <;> by_cases h0 : n = 0 <;> simp [Tryz.f56, tab, Fct.enc, loadB, GoodFc, h0] <;> exact Fr.app _ _
  | false =>
    cases known with
    | false => by_cases h0 : n = 0 <;> simp [Tryz.f56, tab, Fct.enc, loadB, GoodFc, h0] <;> exact Fr.app _ _
    | true =>
      simp [Tryz.f56, tab, Fct.enc, loadB, GoodFc]
      refine (l1Word_ok n _).mono fun r K ⟨e1, e2⟩ => ?_
      subst e1 e2
      simp
      exact Fr.app _ _
theorem fact_eql (a b : Fct) : eqlA tab 35 a.enc b.enc = some (decide (a = b)) := by
  obtain ⟨t, k, n⟩ := a
  obtain ⟨t', k', n'⟩ := b
  have h : ∀ x y : Bool, (x == y) = decide (x = y) := by decide
  have h' : (n == n') = decide (n = n') := rfl
  simp [eqlA, tab, Fct.enc, fitCell, fitsA, eqCells, h, h']
theorem joinFacts_ok (a b : Fct) (H : Hp) : T Tryz.prog 52 [.agg a.enc, .agg b.enc] H (fun r K => r = .agg (joinF a b).enc ∧ Fr H K) := by
  refine T.by tabOk Tryz.func52 (by kernel_rfl) rfl _ (by simp [Tryz.f52]) H _ ?_
  obtain ⟨t, k, n⟩ := a
  obtain ⟨t', k', n'⟩ := b
  cases t with
  | true => simp [Tryz.f52, tab, Fct.enc, loadB, storeB, over, joinF]; exact Fr.app _ _
  | false =>
    cases t' with
    | true => simp [Tryz.f52, tab, Fct.enc, loadB, storeB, over, joinF]; exact Fr.app _ _
    | false =>
      by_cases h : k = k' ∧ n = n' <;> simp [Tryz.f52, tab, Fct.enc, loadB, storeB, over, joinF, fillA, h] <;> exact Fr.app _ _
theorem l5Join_ok (a b : Fct) (H : Hp) : T Tryz.prog 58 [.agg a.enc, .agg b.enc] H (fun r K => r = .agg (joinF a b).enc ∧ Fr H K) := by
  refine T.by tabOk Tryz.func58 (by kernel_rfl) rfl _ (by simp [Tryz.f58]) H _ ?_
  obtain ⟨t, k, n⟩ := a
  obtain ⟨t', k', n'⟩ := b
  cases t with
  | true => simp [Tryz.f58, tab, Fct.enc, loadB, storeB, over, joinF]; exact Fr.app _ _
  | false =>
    cases t' with
    | true => simp [Tryz.f58, tab, Fct.enc, loadB, storeB, over, joinF]; exact Fr.app _ _
    | false =>
      by_cases h : k = k' ∧ n = n' <;> simp [Tryz.f58, tab, Fct.enc, loadB, storeB, over, joinF, fillA, h] <;> exact Fr.app _ _
set_option maxRecDepth 100000 in
theorem l5Two_ok (op : Int) (a b : Fct) (H : Hp) (ho : 3 ≤ op ∧ op ≤ 7) : T Tryz.prog 60 [.int .i64 op, .agg a.enc, .agg b.enc] H (fun r K => r = .agg (twoF op a b).enc ∧ Fr H K) := by
  refine T.by tabOk Tryz.func60 (by kernel_rfl) rfl _ (by simp [Tryz.f60]) H _ ?_
  obtain ⟨t, k, n⟩ := a
  obtain ⟨t', k', n'⟩ := b
  have f4 : Fr H (H ++ [some ⟨3, true, [.bool t, .bool k, .int .i64 n]⟩, some ⟨3, true, [.bool t', .bool k', .int .i64 n']⟩, some ⟨3, true, [.bool false, .bool false, .int .i64 0]⟩, some ⟨3, true, [.bool false, .bool true, .int .i64 0]⟩]) := Fr.app H _
  cases k with
  | true =>
    cases k' with
    | true =>
      simp [Tryz.f60, tab, Fct.enc, fillA, over, loadB]
      refine (l3Do_ok op n n' _ ho).mono fun r K ⟨e1, e2⟩ => ?_
      subst e1 e2
      simp [tab, fillA, over, storeB, loadB, twoF]
      exact Fr.app _ _
    | false =>
      by_cases o5 : op = 5
      · subst o5
        cases t <;> by_cases h0 : n = 0 <;> simp [Tryz.f60, tab, Fct.enc, fillA, over, loadB, storeB, twoF, h0] <;> exact Fr.app _ _
      · simp [Tryz.f60, tab, Fct.enc, fillA, over, loadB, storeB, twoF, o5]
        exact Fr.app _ _
  | false =>
    by_cases o5 : op = 5
    · subst o5
      cases k' with
      | true => cases t' <;> by_cases h0 : n' = 0 <;> simp [Tryz.f60, tab, Fct.enc, fillA, over, loadB, storeB, twoF, h0] <;> exact Fr.app _ _
      | false => simp [Tryz.f60, tab, Fct.enc, fillA, over, loadB, storeB, twoF]; exact Fr.app _ _
    · cases k' <;> simp [Tryz.f60, tab, Fct.enc, fillA, over, loadB, storeB, twoF, o5] <;> exact Fr.app _ _
/-- A fact of a row. -/
theorem getF {K : Hp} {u : AV} {R : List Fct} (h : Row 3 K u (fcts R)) (hl : R.length = 8) {i : Int} (hi : Nm i) : ∃ b q, indexAddrA tab (.slice 35) K u (.int .i64 i) = some (.ptr b q) ∧ loadA tF K (.ptr b q) = some (.agg (fc R i).enc) := by
  obtain ⟨b, q, _, e1, e2, -⟩ := h.get (tab := tab) (e := 35) (ety := tF) rfl (fc_get hl hi) .i64
  unfold Nm at hi
  rw [Int.toNat_of_nonneg hi.1] at e1
  exact ⟨b, q, e1, e2 rfl⟩
set_option maxRecDepth 100000 in
theorem fact_ok (x : Ins) (R : List Fct) (w : AV) (H : Hp) (hx : GoodI x) (h8 : x.op ≠ 8) (hR : R.length = 8) (hw : Row 3 H w (fcts R)) : T Tryz.prog 53 [.agg x.enc, w] H (fun r K => r = .agg (factI x R).enc ∧ Fr H K) := by
  refine T.by tabOk Tryz.func53 (by kernel_rfl) rfl _ (by simp [Tryz.f53]) H _ ?_
  obtain ⟨n1, n2, n3⟩ := hx.names
  obtain ⟨b1, q1, x1, x2⟩ := getF hw hR n2
  obtain ⟨b2, q2, x3, x4⟩ := getF hw hR n3
  have hfc : factI x R = if x.op = 1 then isF x.n else if x.op = 2 then fc R x.a else twoF x.op (fc R x.a) (fc R x.b) := rfl
  rw [hfc]
  generalize fc R x.a = A at *
  generalize fc R x.b = B at *
  obtain ⟨t, k, n⟩ := A
  obtain ⟨t', k', n'⟩ := B
  obtain ⟨op, dst, a, b, nn⟩ := x
  simp only [Fct.enc] at x2 x4
  simp only at x1 x3 h8 hx ⊢
  have fr : ∀ L : Hp, Fr H (H ++ L) := fun L => Fr.app H L
  have o3 : ¬ op = 1 → ¬ op = 2 → 3 ≤ op ∧ op ≤ 7 := by
    intro o1 o2
    rcases hx with g | g | g | g
    · exact absurd g.1 o1
    · exact absurd g.1 o2
    · exact absurd g.1 h8
    · exact ⟨g.1, g.2.1⟩
  simp (maxDischargeDepth := 9) [Tryz.f53, tab, Ins.enc]
  refine W_cut (fun ts K => ∃ p5 p6, ts 2 = .ptr H.length 0 ∧ ts 4 = .ptr (H.length + 1) 0 ∧ ts 5 = .ptr p5 0 ∧ ts 6 = .ptr p6 0 ∧ K[H.length]? = some (some ⟨5, true, [.int .i64 op, .int .i64 dst, .int .i64 a, .int .i64 b, .int .i64 nn]⟩) ∧ K[H.length + 1]? = some (some ⟨3, true, [.bool false, .bool false, .int .i64 0]⟩) ∧ K[p5]? = some (some ⟨3, true, [.bool t, .bool k, .int .i64 n]⟩) ∧ K[p6]? = some (some ⟨3, true, [.bool t', .bool k', .int .i64 n']⟩) ∧ Fr H K) ?_ ?_
  · refine W_draw mixed (.look 0 (.look 1 (.look 2 (.look 3 (.look 4 (.look 5 (.look 6 (.look 7 (.look 8 (.look 9 (.act 10 [2, 3, 4, 7, 8, 9] (.act 11 [2, 3, 4, 7, 8, 9] (.act 12 [7, 8, 9] (.act 13 [] .done .stop) .stop) .stop) (.act 11 [2, 3, 4, 7, 8, 9] (.act 10 [2, 3, 4, 7, 8, 9] (.act 12 [7, 8, 9] (.act 13 [] .done .stop) .stop) .stop) .stop)))))))))))) (by kernel_rfl) ?_
    simp (maxDischargeDepth := 9) [tab, loadB, x1, x2, x3, x4, storeB, over, fillA]
    exact ⟨fr _, fr _⟩
  rintro ts K ⟨p5, p6, t2, t4, t5, t6, hx0, hz, h5, h6, hK⟩
  have fin : ∀ (x : Fct) (K2 : Hp), K2 = K → ∃ K', storeA tF K2 (.ptr (H.length + 1) 0) (.agg [.bool x.top, .bool x.known, .int .i64 x.n]) = some K' ∧ loadA tF K' (.ptr (H.length + 1) 0) = some (.agg [.bool x.top, .bool x.known, .int .i64 x.n]) ∧ Fr H K' := by
    rintro x K2 rfl
    obtain ⟨K', s1, s2, s3, s4⟩ := store_at hz rfl (ty := tF) (o := 0) (v := .agg [.bool x.top, .bool x.known, .int .i64 x.n]) rfl rfl (by simp)
    simp [over] at s2
    exact ⟨K', s1, by simp [loadA, s2], Fr.then hK s3 fun b hb => by omega⟩
  have g0 : loadA tI K (.ptr H.length 0) = some (.int .i64 op) := load_at hx0 rfl rfl rfl
  have g4 : loadA tI K (.ptr H.length 4) = some (.int .i64 nn) := load_at hx0 rfl rfl rfl
  have a0 : loadA tF K (.ptr p5 0) = some (.agg [.bool t, .bool k, .int .i64 n]) := by simp [loadA, h5]
  have a1 : loadA tFB K (.ptr p5 1) = some (.bool k) := load_at h5 rfl rfl rfl
  have a2 : loadA tI K (.ptr p5 2) = some (.int .i64 n) := load_at h5 rfl rfl rfl
  have b0 : loadA tF K (.ptr p6 0) = some (.agg [.bool t', .bool k', .int .i64 n']) := by simp [loadA, h6]
  have b1 : loadA tFB K (.ptr p6 1) = some (.bool k') := load_at h6 rfl rfl rfl
  have b2 : loadA tI K (.ptr p6 2) = some (.int .i64 n') := load_at h6 rfl rfl rfl
  clear h5 h6 hx0 hx x1 x2 x3 x4 hw hfc n1 n2 n3
  by_cases o1 : op = 1
  · subst o1
    obtain ⟨K', s1, s2, s3⟩ := fin (isF nn) K rfl
    simp [t2, t4, t5, t6, tab, g0, g4, over, fillA, s1, s2, Fct.enc]
    exact s3
  by_cases o2 : op = 2
  · subst o2
    obtain ⟨K', s1, s2, s3⟩ := fin ⟨t, k, n⟩ K rfl
    simp [t2, t4, t5, t6, tab, g0, a0, s1, s2, Fct.enc]
    exact s3
  by_cases hk : k = true ∧ k' = true
  · obtain ⟨rfl, rfl⟩ := hk
    obtain ⟨K', s1, s2, s3⟩ := fin (isF (doI op n n')) K rfl
    simp [t2, t4, t5, t6, tab, g0, a1, b1, a2, b2, o1, o2]
    refine (reckon_ok op n n' _ (o3 o1 o2)).mono fun r K ⟨e1, e2⟩ => ?_
    subst e1 e2
    simp [t2, t4, t5, t6, tab, fillA, over, s1, s2, twoF, Fct.enc]
    exact s3
  obtain ⟨K', s1, s2, s3⟩ := fin (isF 0) K rfl
  obtain ⟨K'', s1', s2', s3'⟩ := fin botF K rfl
  cases k with
  | true =>
    cases k' with
    | true => exact absurd ⟨rfl, rfl⟩ hk
    | false =>
      by_cases o5 : op = 5
      · subst o5
        cases t <;> by_cases h0 : n = 0 <;> simp [t2, t4, t5, t6, tab, g0, a0, a1, b0, b1, Fct.enc, fillA, over, s1, s2, s1', s2', twoF, h0] <;> (first | exact s3 | exact s3')
      · simp [t2, t4, t5, t6, tab, g0, a1, b1, Fct.enc, fillA, over, s1', s2', twoF, o1, o2, o5]
        exact s3'
  | false =>
    by_cases o5 : op = 5
    · subst o5
      cases k' with
      | true => cases t' <;> by_cases h0 : n' = 0 <;> simp [t2, t4, t5, t6, tab, g0, a0, a1, b0, b1, Fct.enc, fillA, over, s1, s2, s1', s2', twoF, h0] <;> (first | exact s3 | exact s3')
      | false => simp [t2, t4, t5, t6, tab, g0, a0, a1, b0, b1, Fct.enc, fillA, over, s1', s2', twoF]; exact s3'
    · cases k' <;> simp [t2, t4, t5, t6, tab, g0, a1, b1, Fct.enc, fillA, over, s1', s2', twoF, o1, o2, o5] <;> exact s3'
end Go.Proofs.YtdbnokeegocpbaaGreat.Am
