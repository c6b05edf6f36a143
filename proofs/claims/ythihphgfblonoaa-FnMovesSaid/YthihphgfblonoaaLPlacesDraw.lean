/- Words of the places drawn, and the draws of moves on the whole. No condition. -/
import Derived.Test.YthihphgfblonoaaLMovesDraw
import Derived.Test.YthihphgfblonoaaLLayFn
namespace Go.Proofs.Ythihphgfblonoaa.Am
open Go Go.RowKit
set_option linter.unusedSimpArgs false
set_option linter.unusedVariables false

theorem Own.putW {K : Hp} {u : AV} {V : List Int} (h : Own 1 K u (ints V)) {i : Int} (h0 : 0 ≤ i) (h1 : i < V.length) (x : Int) : ∃ b, indexAddrA tab (.slice 3) K u (.int .i64 i) = some (.ptr b i.toNat) ∧ ∃ K', storeA tI K (.ptr b i.toNat) (.int .i64 x) = some K' ∧ Own 1 K' u (ints (V.set i.toNat x)) ∧ Keeps u.at K K' ∧ K'.length = K.length := by
  obtain ⟨k, rfl⟩ := Int.eq_ofNat_of_zero_le h0
  have hk : k < V.length := by omega
  obtain ⟨b, hb, f1, f2⟩ := h.store (tab := tab) (e := 3) (ety := tI) rfl (i := k) (c := [.int .i64 V[k]]) (by simp [ints, hk]) .i64
  obtain ⟨K', f3, f4, f5, f6⟩ := f2 tI 0 (.int .i64 x) rfl rfl (by decide)
  refine ⟨b, by simpa using f1, K', by simpa using f3, ?_, f5, f6⟩
  have e : (ints V).set k (over [.int .i64 V[k]] 0 (AV.int .i64 x).cells) = ints (V.set k x) := by simp [ints, List.map_set, over]
  rw [e] at f4
  simpa using f4
set_option maxRecDepth 100000 in
theorem drawPlaces_ok (c : Nat) (n : Int) (H : Hp) (hn : n ≤ 50000) (hc : Cur H c n) : T Try.prog 63 [.ptr c 0] H (fun r K => (∃ L, Own 1 K r (ints L) ∧ L.length = 11) ∧ Fresh H.length r ∧ Cur K c (n + 2) ∧ Moves c H K) := by
  refine T.by tabOk Try.func63 (by kernel_rfl) rfl _ (by simp [Try.f63]) H _ ?_
  have hcl := hc.lt
  simp [-W_block, Try.f63, tab]
  refine W_cut (fun ts K => ts 0 = .ptr c 0 ∧ ∃ L, Own 1 K (ts 3) (ints L) ∧ L.length = 11 ∧ Fresh H.length (ts 3) ∧ Cur K c n ∧ Moves c H K) ?_ ?_
  · simp only [W_block]
    refine W_loop _ fun I hI => ?_
    have key : ∀ (d k : Nat) (L : List Int) (ts : TS) (K : Hp) (u : AV), k + d = 11 → L.length = k → Own 1 K u (ints L) → Fresh H.length u → Cur K c n → Moves c H K → (ts 0 = .ptr c 0 ∧ ts 3 = u ∧ ts 4 = .int .i64 k) → I ts K := by
      intro d
      induction d with
      | zero =>
        intro k L ts K u e hL ho hf hcc hM hts
        apply hI
        obtain rfl : k = 11 := by omega
        simp [hts, tab]
        exact ⟨L, ho, hL, hf, hcc, hM⟩
      | succ d ih =>
        intro k L ts K u e hL ho hf hcc hM hts
        apply hI
        have hk : (k : Int) ≤ 10 := by omega
        have hwk := wrap64 (x := (k : Int) + 1) (by omega) (by omega)
        have hw1 := wrap64 (x := 100 + (k : Int)) (by omega) (by omega)
        obtain ⟨u', K3, b1, b2, b3, b4⟩ := ho.push (100 + (k : Int)) (by omega)
        simp [hts, tab, hk, hwk, hw1, buildSliceA, zerosA, fillA, over, b1]
        exact ih (k + 1) _ _ K3 u' (by omega) (by simp [hL]) b2 (fun b hb => (b4 b hb).elim (hf b) fun h => Nat.le_trans hM.1 h) (hcc.keeps b3 fun b hb => by have := hf b hb; omega) (Moves.up hM b3 hf) (by simp [hts])
    exact key 11 0 [] _ H .nil rfl rfl (by simpa [ints] using Own.nil 1 H) (Fresh.nil _) hc (Keeps.refl _ _) (by simp)
  rintro ts K ⟨hts, L, ho, hL, hf, hcc, hM⟩
  generalize hu : ts 3 = u at *
  simp only [post_sq, W_seq]
  simp [hts, hu, tab]
  refine (one_ok c 30 _ K (by omega) hcc).mono fun r K2 ⟨⟨z, e1⟩, c2, m2⟩ => ?_
  subst e1
  have o2 := ho.keeps m2 fun b hb e => by have := hf b hb; omega
  have M2 := hM.trans m2
  cases z with
  | false =>
    simp [hts, hu, tab]
    exact ⟨⟨L, o2, hL⟩, hf, c2, M2⟩
  | true =>
    obtain ⟨b, q1, K6, q2, q3, q4, q5⟩ := o2.putW (i := 0) (by omega) (by omega) 65536
    simp at q1 q2
    simp [hts, hu, tab, q1, q2]
    exact ⟨⟨_, q3, by simp [hL]⟩, hf, c2.keeps q4 fun b hb => by have := hf b hb; omega, Moves.up M2 q4 hf⟩
def DMoves (H : Hp) (r : AV) (K : Hp) : Prop := (∃ l, Own 2 K r (moves l) ∧ l.length ≤ 8) ∧ Fr H K
theorem drawGood_ok (v : AV) (H : Hp) (hv : Bytes H v) : T Try.prog 61 [v] H (DMoves H) := by
  refine T.by tabOk Try.func61 (by kernel_rfl) rfl _ (by simp [Try.f61]) H _ ?_
  have h1 := hv.one
  have h2 := cells_of_one h1
  simp [Try.f61, tab, fillA, over, h1, h2]
  refine (drawMoves_ok H.length 0 _ (by omega) (cur_new hv)).mono fun u K ⟨⟨l, a1, a2⟩, _, c1, m1⟩ => ?_
  simp
  exact ⟨⟨l, a1, a2⟩, Moves.free m1⟩
theorem drawRings_ok (v : AV) (H : Hp) (hv : Bytes H v) : T Try.prog 38 [v] H (DMoves H) := by
  refine T.by tabOk Try.func38 (by kernel_rfl) rfl _ (by simp [Try.f38]) H _ ?_
  simp [Try.f38]
  refine (drawGood_ok v H hv).mono fun r K h => ?_
  simp [tab]
  exact h
def DPlaces (H : Hp) (r : AV) (K : Hp) : Prop := (∃ v w l L, r = .tup [v, w] ∧ Row 2 K v (moves l) ∧ l.length ≤ 1000 ∧ Row 1 K w (ints L) ∧ L.length = 11) ∧ Fr H K
theorem drawOnce_ok (v : AV) (H : Hp) (hv : Bytes H v) : T Try.prog 40 [v] H (DPlaces H) := by
  refine T.by tabOk Try.func40 (by kernel_rfl) rfl _ (by simp [Try.f40]) H _ ?_
  have h1 := hv.one
  have h2 := cells_of_one h1
  simp [Try.f40, tab, fillA, over, h1, h2]
  refine (drawMoves_ok H.length 0 _ (by omega) (cur_new hv)).mono fun u K ⟨⟨l, a1, a2⟩, hf, c1, m1⟩ => ?_
  simp
  refine (drawPlaces_ok H.length _ K (by omega) c1).mono fun w K2 ⟨⟨L, b1, b2⟩, hf2, c2, m2⟩ => ?_
  simp
  exact ⟨⟨u, w, l, L, rfl, (a1.keeps m2 fun b hb e => by have := hf b hb; simp at this; omega).row, by omega, b1.row, b2⟩, Moves.free (m1.trans m2)⟩
theorem drawTurn_ok (v : AV) (H : Hp) (hv : Bytes H v) : T Try.prog 43 [v] H (DPlaces H) := by
  refine T.by tabOk Try.func43 (by kernel_rfl) rfl _ (by simp [Try.f43]) H _ ?_
  have h1 := hv.one
  have h2 := cells_of_one h1
  obtain ⟨H1, hH1, fh⟩ : ∃ H1, H ++ [some ⟨3, true, [v, .int .i64 0, .int .u64 0]⟩] = H1 ∧ Fr H H1 := ⟨_, rfl, Fr.app _ _⟩
  have hc1 : Cur H1 H.length 0 := hH1 ▸ cur_new hv
  have hcl := hc1.lt
  simp [-W_seq, Try.f43]
  iterate 2 (rw [W_seq]; try simp [-W_seq, tab, fillA, over, h1, h2, hH1])
  rw [W_seq]
  simp [-W_seq, tab, fillA, over, h1, h2, hH1]
  refine (drawMoves_ok H.length 0 H1 (by omega) hc1).mono fun u K ⟨⟨l, a1, a2⟩, hf, c1, m1⟩ => ?_
  simp [-W_seq, tab]
  rw [W_seq]
  refine W_cut (fun ts K => ts 4 = .ptr H.length 0 ∧ ∃ l, Row 2 K (ts 5) (moves l) ∧ l.length ≤ 1000 ∧ (∀ b, (ts 5).at b → H1.length ≤ b) ∧ Cur K H.length 200 ∧ Moves H.length H1 K) ?_ ?_
  · simp [tab]
    refine (specLay_ok l u K (by omega) a1.row).mono fun r K2 ⟨out, e1, b1, b2, b3⟩ => ?_
    subst e1
    have hyl := yres_len l
    have hl1 := m1.1
    have M2 : Moves H.length H1 K2 := m1.trans (Moves.of b3)
    cases hok : (yres l).2 with
    | false =>
      simp [tab, hok]
      exact ⟨l, (a1.fr b3).row, by omega, hf, (c1.fr b3).mono (by omega), M2⟩
    | true =>
      simp [tab, hok]
      refine (one_ok H.length 2 _ K2 (by omega) (c1.fr b3)).mono fun r K3 ⟨⟨z, e1⟩, c3, m3⟩ => ?_
      subst e1
      have M3 := M2.trans m3
      cases z with
      | false =>
        simp [tab]
        exact ⟨l, ((a1.fr b3).keeps m3 fun b hb e => by have := hf b hb; omega).row, by omega, hf, c3.mono (by omega), M3⟩
      | true =>
        simp [tab]
        exact ⟨_, (b1.keeps m3 fun b hb e => by have := b2 b hb; omega).row, hyl, fun b hb => by have := b2 b hb; omega, c3.mono (by omega), M3⟩
  rintro ts K3 ⟨hts, l3, o3, hl3, hf3, c3, M3⟩
  generalize hu : ts 5 = u3 at *
  simp only [post_sq, W_seq]
  simp [hts, hu, tab]
  refine (drawPlaces_ok H.length _ K3 (by omega) c3).mono fun w K4 ⟨⟨L, b1, b2⟩, hf2, c4, m4⟩ => ?_
  simp [hts, hu, tab]
  exact ⟨⟨u3, w, l3, L, rfl, o3.keeps m4 fun b hb e => by have := hf3 b hb; omega, hl3, b1.row, b2⟩, Fr.then fh (M3.trans m4) fun b hb => by omega⟩
end Go.Proofs.Ythihphgfblonoaa.Am
